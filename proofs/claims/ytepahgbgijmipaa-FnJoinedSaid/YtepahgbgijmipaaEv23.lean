/- A logic over abstract states for walks, twenty-third part: blocks under new numbers; what is not kept is read by value. -/
import Derived.Test.YtepahgbgijmipaaEv22
namespace Go.Proofs.YtepahgbgijmipaaEv
open Go Go.RowKit

/-- The blocks from c on that are not kept. -/
def Hp.rest (h : Hp) (c : Nat) (ids : List Nat) (i : Nat) : Option Blk := if i < c then none else match idxN ids i with | some _ => none | none => h i

/-- A value over the new numbers: the blocks below c stay as they are, those of ids get the numbers from c on. -/
def cnV (h : Hp) (c : Nat) (ids : List Nat) (n : Nat) : V → Option V
  | .d x => some (.d x)
  | .ip cs o => some (.ip cs o)
  | .ptr id ver i o => if id < c then some (.ptr id ver i o) else match idxN ids id, rdBlk h id ver with
    | some j, some _ => some (.ptr (c + j) 0 i o)
    | _, _ => none
  | .sl id ver off len => if id < c then some (.sl id ver off len) else match idxN ids id with
    | some j => (rdBlk h id ver).map fun _ => .sl (c + j) 0 off len
    | none => (fzD (h.rest c ids) 0 n (.sl id ver off len)).map .d
  | .agg cs => (cnVs h c ids n cs).map .agg
  | .tup cs => (cnVs h c ids n cs).map .tup
  | .fn f cs => (cnVs h c ids n cs).map (.fn f)
  | .any => none
where cnVs (h : Hp) (c : Nat) (ids : List Nat) (n : Nat) : List V → Option (List V)
  | [] => some []
  | v :: r => match cnV h c ids n v, cnVs h c ids n r with
    | some v', some r' => some (v' :: r')
    | _, _ => none

theorem cnVs_mem {h : Hp} {c n : Nat} {ids : List Nat} : ∀ {cs cs' : List V}, cnV.cnVs h c ids n cs = some cs' → cs.length = cs'.length ∧ ∀ (j : Nat) (h1 : j < cs.length) (h2 : j < cs'.length), cnV h c ids n cs[j] = some cs'[j]
  | [], cs', he => by simp [cnV.cnVs] at he; subst he; exact ⟨rfl, fun j h1 _ => by simp at h1⟩
  | v :: r, cs', he => by
    simp only [cnV.cnVs] at he
    split at he
    · rename_i v' r' h1 h2
      cases he
      obtain ⟨l, hm⟩ := cnVs_mem h2
      refine ⟨by simp [l], fun j a b => ?_⟩
      cases j with
      | zero => exact h1
      | succ j => exact hm j (by simpa using a) (by simpa using b)
    · cases he

/-- Whence a block comes. -/
def srcI (c : Nat) (ids : List Nat) (i : Nat) : Nat := if i < c then i else ids.getD (i - c) 0

/-- The heap under the new numbers. -/
def CnH (h h' : Hp) (c : Nat) (ids : List Nat) (n : Nat) : Prop := ∀ i B', h' i = some B' → i < c + ids.length ∧ ∃ B es, h (srcI c ids i) = some B ∧ mapO (mapO (cnV h c ids n)) B.es = some es ∧ B' = ⟨B.T, B.s, if i < c then B.ver else 0, es⟩

theorem CnH.shape {h h' : Hp} {c n : Nat} {ids : List Nat} (hk : CnH h h' c ids n) {i : Nat} {B' : Blk} (hB : h' i = some B') : i < c + ids.length ∧ ∃ B, h (srcI c ids i) = some B ∧ B.T = B'.T ∧ B.s = B'.s ∧ (i < c → B.ver = B'.ver) ∧ (c ≤ i → B'.ver = 0) ∧ B.es.length = B'.es.length := by
  obtain ⟨h1, B, es, h2, h3, rfl⟩ := hk i B' hB
  exact ⟨h1, B, h2, rfl, rfl, fun hi => by simp [hi], fun hi => by simp [show ¬ i < c by omega], (mapO_mem h3).1⟩

section
variable {P : Program} {w : World} {S : Nat → Prop} {h : Hp} {m : Nat → Nat × Nat} {nx : Nat → Prop}

/-- The blocks that are read by value from here on. -/
abbrev CnS (S : Nat → Prop) (h : Hp) (m : Nat → Nat × Nat) (c : Nat) (ids : List Nat) : Nat → Prop := Fz S (h.rest c ids) m 0
abbrev cnM (m : Nat → Nat × Nat) (c : Nat) (ids : List Nat) : Nat → Nat × Nat := fun i => m (srcI c ids i)

theorem idxN_none : ∀ {l : List Nat} {i : Nat}, idxN l i = none → i ∉ l
  | [], _, _ => by simp
  | x :: l, i, he => by
    simp only [idxN] at he
    split at he
    · cases he
    · rename_i hx
      simp only [Option.map_eq_none_iff] at he
      have := idxN_none he
      simp only [List.mem_cons, not_or]
      exact ⟨fun e => hx e.symm, this⟩

theorem rest_or (c : Nat) (ids : List Nat) (i : Nat) : h.rest c ids i = h i ∨ h.rest c ids i = none := by
  unfold Hp.rest
  split
  · exact .inr rfl
  · split
    · exact .inr rfl
    · exact .inl rfl
theorem rest_some {c : Nat} {ids : List Nat} {i : Nat} {B : Blk} (hB : h.rest c ids i = some B) : c ≤ i ∧ i ∉ ids ∧ h i = some B := by
  unfold Hp.rest at hB
  split at hB
  · cases hB
  · split at hB
    · cases hB
    · rename_i hn
      exact ⟨by omega, idxN_none hn, hB⟩
theorem HR.rest (H : HR w S h m nx) (c : Nat) (ids : List Nat) : HR w S (h.rest c ids) m nx :=
  H.sub (fun _ h => h) (rest_or c ids) fun b hb => ⟨(H.st b hb).1, fun i B hB => (H.st b hb).2 i B (rest_some hB).2.2⟩

theorem cnV_sound (H : HR w S h m nx) {c n : Nat} {ids : List Nat} {h' : Hp} {nx' : Nat} (hk : CnH h h' c ids n) (hnx : c + ids.length ≤ nx') {v : Value} {x : V} (hv : RV w S h m nx v x) :
    ∀ {y : V}, cnV h c ids n x = some y → RV w (CnS S h m c ids) h' (cnM m c ids) (low nx') v y := by
  induction hv with
  | any v => intro y he; simp [cnV] at he
  | d v x hd =>
    intro y he
    simp [cnV] at he; subst he
    exact .d _ _ (hd.mono (fun b hb => .inl hb) fun _ _ => rfl)
  | ptr v id ver i o hlt hver hvv =>
    intro y he
    simp only [cnV] at he
    split at he
    · rename_i hid
      cases he
      refine .ptr v id ver i o (show id < nx' by omega) (fun B' hB' => ?_) (fun B' hB' e => ?_)
      · obtain ⟨_, B, hB, e1, e2, e3, _, e4⟩ := hk.shape hB'
        simp only [srcI, if_pos hid] at hB
        rw [← e3 hid]; exact hver B hB
      · obtain ⟨_, B, hB, e1, e2, e3, _, e4⟩ := hk.shape hB'
        simp only [srcI, if_pos hid] at hB
        have := hvv B hB ((e3 hid).trans e)
        rw [e2, e4] at this
        simpa only [cnM, srcI, if_pos hid] using this
    · rename_i hid
      split at he
      · rename_i j B0 hj hB0
        cases he
        obtain ⟨hB0, hb0⟩ := rdBlk_some hB0
        have hj' := idxN_some hj
        have hjl := (List.getElem?_eq_some_iff.1 hj').1
        have hsrc : srcI c ids (c + j) = id := by rw [srcI, if_neg (by omega), Nat.add_sub_cancel_left, List.getD_eq_getElem?_getD, hj']; rfl
        refine .ptr v (c + j) 0 i o (show c + j < nx' by omega) (fun B' hB' => Nat.zero_le _) (fun B' hB' e => ?_)
        obtain ⟨_, B, hB, e1, e2, e3, _, e4⟩ := hk.shape hB'
        rw [hsrc, hB0] at hB
        cases hB
        have := hvv B0 hB0 hb0
        rw [e2, e4] at this
        simpa only [cnM, hsrc] using this
      · cases he
  | ip b off o cs cells hS hl hc hr =>
    intro y he
    simp [cnV] at he; subst he
    exact .ip b off o cs cells (.inl hS) hl hc fun j a b => (hr j a b).mono (fun b hb => .inl hb) fun _ _ => rfl
  | sl v id ver off len hlt hver hvv =>
    intro y he
    simp only [cnV] at he
    split at he
    · rename_i hid
      cases he
      refine .sl v id ver off len (show id < nx' by omega) (fun B' hB' => ?_) (fun B' hB' e => ?_)
      · obtain ⟨_, B, hB, e1, e2, e3, _, e4⟩ := hk.shape hB'
        simp only [srcI, if_pos hid] at hB
        rw [← e3 hid]; exact hver B hB
      · obtain ⟨_, B, hB, e1, e2, e3, _, e4⟩ := hk.shape hB'
        simp only [srcI, if_pos hid] at hB
        have := hvv B hB ((e3 hid).trans e)
        rw [e2, e4] at this
        simpa only [cnM, srcI, if_pos hid] using this
    · rename_i hid
      split at he
      · rename_i j hj
        cases hq : rdBlk h id ver with
        | none => simp [hq] at he
        | some B0 =>
          simp [hq] at he; subst he
          obtain ⟨hB0, hb0⟩ := rdBlk_some hq
          have hj' := idxN_some hj
          have hjl := (List.getElem?_eq_some_iff.1 hj').1
          have hsrc : srcI c ids (c + j) = id := by rw [srcI, if_neg (by omega), Nat.add_sub_cancel_left, List.getD_eq_getElem?_getD, hj']; rfl
          refine .sl v (c + j) 0 off len (show c + j < nx' by omega) (fun B' hB' => Nat.zero_le _) (fun B' hB' e => ?_)
          obtain ⟨_, B, hB, e1, e2, e3, _, e4⟩ := hk.shape hB'
          rw [hsrc, hB0] at hB
          cases hB
          have := hvv B0 hB0 hb0
          rw [e2, e4] at this
          simpa only [cnM, hsrc] using this
      · cases hq : fzD (h.rest c ids) 0 n (.sl id ver off len) with
        | none => simp [hq] at he
        | some d =>
          simp [hq] at he; subst he
          exact .d _ _ (fzD_sound (H.rest c ids) 0 n v _ d (RV.sub (fun _ h => h) (rest_or c ids) (.sl v id ver off len hlt hver hvv)) hq)
  | agg vs cs hl hr ih =>
    intro y he
    simp only [cnV] at he
    cases hq : cnV.cnVs h c ids n cs with
    | none => simp [hq] at he
    | some cs' =>
      simp [hq] at he; subst he
      obtain ⟨a, b⟩ := cnVs_mem hq
      exact .agg vs cs' (by omega) fun j h1 h2 => ih j h1 (by omega) (b j (by omega) h2)
  | tup vs cs hl hr ih =>
    intro y he
    simp only [cnV] at he
    cases hq : cnV.cnVs h c ids n cs with
    | none => simp [hq] at he
    | some cs' =>
      simp [hq] at he; subst he
      obtain ⟨a, b⟩ := cnVs_mem hq
      exact .tup vs cs' (by omega) fun j h1 h2 => ih j h1 (by omega) (b j (by omega) h2)
  | fn f vs cs hl hr ih =>
    intro y he
    simp only [cnV] at he
    cases hq : cnV.cnVs h c ids n cs with
    | none => simp [hq] at he
    | some cs' =>
      simp [hq] at he; subst he
      obtain ⟨a, b⟩ := cnVs_mem hq
      exact .fn f vs cs' (by omega) fun j h1 h2 => ih j h1 (by omega) (b j (by omega) h2)

theorem srcI_lt {c : Nat} {ids : List Nat} {i : Nat} (hi : i < c) : srcI c ids i = i := by simp [srcI, hi]
theorem srcI_ge {c : Nat} {ids : List Nat} {i : Nat} (hi : c ≤ i) (hl : i < c + ids.length) : ∃ hj : i - c < ids.length, srcI c ids i = ids[i - c] :=
  ⟨by omega, by simp [srcI, show ¬ i < c by omega, List.getD_eq_getElem?_getD, List.getElem?_eq_getElem (show i - c < ids.length by omega)]⟩
theorem srcI_rest {c : Nat} {ids : List Nat} {i : Nat} (hl : i < c + ids.length) : srcI c ids i < c ∨ srcI c ids i ∈ ids := by
  by_cases hi : i < c
  · rw [srcI_lt hi]; exact .inl hi
  · obtain ⟨hj, he⟩ := srcI_ge (c := c) (ids := ids) (i := i) (by omega) hl
    rw [he]; exact .inr (List.getElem_mem _)
theorem srcI_inj {c : Nat} {ids : List Nat} (hn : ids.Nodup) (hge : ∀ i ∈ ids, c ≤ i) {i j : Nat} (hi : i < c + ids.length) (hj : j < c + ids.length) (he : srcI c ids i = srcI c ids j) : i = j := by
  by_cases hi' : i < c
  · rw [srcI_lt hi'] at he
    by_cases hj' : j < c
    · rw [srcI_lt hj'] at he; exact he
    · obtain ⟨hq, hq'⟩ := srcI_ge (c := c) (ids := ids) (i := j) (by omega) hj
      rw [hq'] at he
      have := hge _ (List.getElem_mem hq)
      omega
  · obtain ⟨hp, hp'⟩ := srcI_ge (c := c) (ids := ids) (i := i) (by omega) hi
    rw [hp'] at he
    by_cases hj' : j < c
    · rw [srcI_lt hj'] at he
      have := hge _ (List.getElem_mem hp)
      omega
    · obtain ⟨hq, hq'⟩ := srcI_ge (c := c) (ids := ids) (i := j) (by omega) hj
      rw [hq'] at he
      have := (List.getElem_inj hn).1 he
      omega

theorem HR.canon (H : HR w S h m nx) {c n : Nat} {ids : List Nat} {h' : Hp} {nx' : Nat} (hn : ids.Nodup) (hge : ∀ i ∈ ids, c ≤ i) (hk : CnH h h' c ids n) (hnx : c + ids.length ≤ nx') :
    HR w (CnS S h m c ids) h' (cnM m c ids) (low nx') := by
  refine ⟨fun b hb => ⟨?_, fun i B' hB' he => ?_⟩, fun i j B B' h1 h2 he => ?_, fun i B hB => ?_, fun i B' hB' => ?_⟩
  · rcases hb with hb | ⟨i, B, hB, _, rfl⟩
    · exact (H.st b hb).1
    · obtain ⟨C, c1, _⟩ := H.blk i B (rest_some hB).2.2
      exact (Array.getElem?_eq_some_iff.1 c1).1
  · obtain ⟨hi, B, hB, _⟩ := hk.shape hB'
    rcases hb with hb | ⟨j, Bj, hBj, hj, rfl⟩
    · exact (H.st b hb).2 _ B hB he
    · obtain ⟨r1, r2, r3⟩ := rest_some hBj
      have := H.inj _ j B Bj hB r3 he
      rcases srcI_rest hi with h1 | h1
      · omega
      · rw [this] at h1; exact r2 h1
  · obtain ⟨hi, B1, hB1, _⟩ := hk.shape h1
    obtain ⟨hj, B2, hB2, _⟩ := hk.shape h2
    exact srcI_inj hn hge hi hj (H.inj _ _ B1 B2 hB1 hB2 he)
  · have := (hk.shape hB).1
    show i < nx'
    omega
  · obtain ⟨_, B, es, hB, hm, rfl⟩ := hk i B' hB'
    obtain ⟨C, c1, c2, c3, c4, c5, c6, c7⟩ := H.blk _ B hB
    obtain ⟨l1, l2⟩ := mapO_mem hm
    have hfl := mapO_flatten hm
    obtain ⟨f1, f2⟩ := mapO_mem hfl
    refine ⟨C, c1, c2, by simp only [← l1]; exact c3, c4, fun e he => ?_, c6, fun j a b => ?_⟩
    · obtain ⟨q, hq, rfl⟩ := List.mem_iff_getElem.1 he
      have := (mapO_mem (l2 q (by have : q < es.length := hq; omega) hq)).1
      rw [← this]
      exact c5 _ (List.getElem_mem _)
    · exact cnV_sound H hk hnx (c7 j a (by have : j < es.flatten.length := b; omega)) (f2 j (by have : j < es.flatten.length := b; omega) b)

theorem Ext.canon {w0 : World} {S0 : Nat → Prop} {h0 : Hp} {m0 : Nat → Nat × Nat} {n0 : Nat} (e0 : Ext w0 S0 h0 m0 (low n0) w S h m nx) (hlt : ∀ i B, h0 i = some B → i < n0) {c n : Nat} {ids : List Nat} {h' : Hp} {nx' : Nat} (hlo : n0 ≤ c) (hge : ∀ i ∈ ids, c ≤ i) (hk : CnH h h' c ids n) (hnx : c + ids.length ≤ nx') :
    Ext w0 S0 h0 m0 (low n0) w (CnS S h m c ids) h' (cnM m c ids) (low nx') := by
  refine ⟨e0.os, e0.tape, e0.output, e0.size, fun i hi => by
    have : i < n0 := hi
    show i < nx'
    omega, fun b hb => .inl (e0.sub b hb), fun b hb => ?_, e0.keep, fun i B' hi hB' => ?_, fun i B' hB' => ?_⟩
  · rcases hb with hb | ⟨i, B, hB, _, rfl⟩
    · exact e0.sNew b hb
    · obtain ⟨r1, r2, r3⟩ := rest_some hB
      rcases e0.img i B r3 with ⟨B0, hj, he⟩ | hge'
      · have := hlt i B0 hj; omega
      · exact .inr hge'
  · have hic : i < c := by have : i < n0 := hi; omega
    obtain ⟨_, B, hB, e1, e2, e3, _, e4⟩ := hk.shape hB'
    rw [srcI_lt hic] at hB
    obtain ⟨B0, hB0, hv0, hs0⟩ := e0.ids i B hi hB
    have e3 := e3 hic
    refine ⟨B0, hB0, by omega, fun he => ?_⟩
    have hs0 := hs0 (by omega)
    refine ⟨?_, by rw [← e2]; exact hs0.2.1, by rw [← e4]; exact hs0.2.2⟩
    show m (srcI c ids i) = _
    rw [srcI_lt hic]; exact hs0.1
  · obtain ⟨hi, B, hB, _⟩ := hk.shape hB'
    by_cases hic : i < c
    · rw [srcI_lt hic] at hB
      have := e0.img i B hB
      show (∃ B0, h0 i = some B0 ∧ (m0 i).1 = (m (srcI c ids i)).1) ∨ w0.heap.size ≤ (m (srcI c ids i)).1
      rw [srcI_lt hic]; exact this
    · obtain ⟨hj, he⟩ := srcI_ge (c := c) (ids := ids) (i := i) (by omega) hi
      rcases e0.img _ B hB with ⟨B0, hB0, _⟩ | h1
      · have h2 := hlt _ B0 hB0
        rw [he] at h2
        have := hge _ (List.getElem_mem hj)
        omega
      · exact .inr h1
end

/-- From a state to one under new numbers. -/
theorem Rel.canon {E : Ent} {fr fr' : List V} {h h' : Hp} {nx nx' lo : Nat} {a : Act} {w : World} (hr : Rel E ⟨fr, h, nx, lo⟩ a w) {c : Nat} (n : Nat) {ids : List Nat} (hlo : lo ≤ c) (hn : ids.Nodup) (hge : ∀ i ∈ ids, c ≤ i) (hnx : c + ids.length ≤ nx') (hlen : fr'.length = fr.length)
    (hfr : ∀ (t : Nat) (h1 : t < fr'.length) (h2 : t < fr.length), fr'[t] = .any ∨ cnV h c ids n fr[t] = some fr'[t]) (hk : CnH h h' c ids n) : Rel E ⟨fr', h', nx', lo⟩ a w := by
  obtain ⟨hE, S, m, e0, H, hl, hf, hd⟩ := hr
  simp only at hE e0 H hl hf
  refine ⟨hE, CnS S h m c ids, cnM m c ids, e0.canon E.lt (by omega) hge hk hnx, H.canon hn hge hk hnx, by simp only; omega, fun t ht => ?_, hd⟩
  simp only at ht ⊢
  rcases hfr t ht (by omega) with h1 | h1
  · rw [h1]; exact .any _
  · exact cnV_sound H hk hnx (hf t (by omega)) h1

/-- Slots under the new numbers, or forgotten. -/
inductive CnL (h : Hp) (c : Nat) (ids : List Nat) (n : Nat) : List V → List V → Prop
  | nil : CnL h c ids n [] []
  | any {v : V} {l l' : List V} (hl : CnL h c ids n l l') : CnL h c ids n (v :: l) (.any :: l')
  | cn {v v' : V} {l l' : List V} (hv : cnV h c ids n v = some v') (hl : CnL h c ids n l l') : CnL h c ids n (v :: l) (v' :: l')
theorem CnL.len {h : Hp} {c n : Nat} {ids : List Nat} {l l' : List V} (hl : CnL h c ids n l l') : l'.length = l.length := by
  induction hl with
  | nil => rfl
  | any _ ih => simp [ih]
  | cn _ _ ih => simp [ih]
theorem CnL.at {h : Hp} {c n : Nat} {ids : List Nat} {l l' : List V} (hl : CnL h c ids n l l') : ∀ (t : Nat) (h1 : t < l'.length) (h2 : t < l.length), l'[t] = .any ∨ cnV h c ids n l[t] = some l'[t] := by
  induction hl with
  | nil => intro t h1; simp at h1
  | any _ ih =>
    intro t h1 h2
    cases t with
    | zero => exact .inl rfl
    | succ t => exact ih t (by simpa using h1) (by simpa using h2)
  | cn hv _ ih =>
    intro t h1 h2
    cases t with
    | zero => exact .inr hv
    | succ t => exact ih t (by simpa using h1) (by simpa using h2)

/-- A block under the new numbers: one that keeps its own, and one that gets a new one. -/
def cnB (h : Hp) (c : Nat) (ids : List Nat) (n : Nat) : Option Blk → Option (Option Blk)
  | none => some none
  | some ⟨T, s, v, es⟩ => (mapO (mapO (cnV h c ids n)) es).map fun es' => some ⟨T, s, v, es'⟩
def cnZ (h : Hp) (c : Nat) (ids : List Nat) (n : Nat) : Option Blk → Option (Option Blk)
  | none => some none
  | some ⟨T, s, _, es⟩ => (mapO (mapO (cnV h c ids n)) es).map fun es' => some ⟨T, s, 0, es'⟩
theorem cnB_some {h : Hp} {c n : Nat} {ids : List Nat} {b : Option Blk} {B' : Blk} (he : cnB h c ids n b = some (some B')) : ∃ B es, b = some B ∧ mapO (mapO (cnV h c ids n)) B.es = some es ∧ B' = ⟨B.T, B.s, B.ver, es⟩ := by
  cases b with
  | none => simp [cnB] at he
  | some B =>
    obtain ⟨T, s, v, es⟩ := B
    simp only [cnB, Option.map_eq_some_iff, Option.some.injEq] at he
    obtain ⟨es', h1, rfl⟩ := he
    exact ⟨_, es', rfl, h1, rfl⟩
theorem cnZ_some {h : Hp} {c n : Nat} {ids : List Nat} {b : Option Blk} {B' : Blk} (he : cnZ h c ids n b = some (some B')) : ∃ B es, b = some B ∧ mapO (mapO (cnV h c ids n)) B.es = some es ∧ B' = ⟨B.T, B.s, 0, es⟩ := by
  cases b with
  | none => simp [cnZ] at he
  | some B =>
    obtain ⟨T, s, v, es⟩ := B
    simp only [cnZ, Option.map_eq_some_iff, Option.some.injEq] at he
    obtain ⟨es', h1, rfl⟩ := he
    exact ⟨_, es', rfl, h1, rfl⟩

theorem cnH_of {hl : List (Option Blk)} {c n : Nat} {ids : List Nat} {l1 l2 : List (Option Blk)} (h1 : mapO (cnB (hL hl) c ids n) (hl.take c) = some l1) (hc : l1.length = c) (h2 : mapO (fun i => cnZ (hL hl) c ids n (hL hl i)) ids = some l2) : CnH (hL hl) (hL (l1 ++ l2)) c ids n := by
  obtain ⟨k1, k2⟩ := mapO_mem h1
  obtain ⟨j1, j2⟩ := mapO_mem h2
  intro i B' hB'
  simp only [hL, List.getD_eq_getElem?_getD] at hB'
  by_cases hi : i < c
  · rw [List.getElem?_append_left (by omega), List.getElem?_eq_getElem (by omega)] at hB'
    simp only [Option.getD_some] at hB'
    have := k2 i (by omega) (by omega)
    rw [hB'] at this
    obtain ⟨B, es, g1, g2, g3⟩ := cnB_some this
    refine ⟨by omega, B, es, ?_, g2, by simp only [if_pos hi]; exact g3⟩
    rw [srcI_lt hi, ← g1]
    simp only [hL, List.getD_eq_getElem?_getD, List.getElem_take]
    rw [List.getElem?_eq_getElem (by simp at k1; omega)]
    rfl
  · by_cases hi2 : i < c + ids.length
    · rw [List.getElem?_append_right (by omega), List.getElem?_eq_getElem (by omega)] at hB'
      simp only [Option.getD_some] at hB'
      have := j2 (i - c) (by omega) (by omega)
      have hB2 : l2[i - c]'(by omega) = some B' := by simpa only [hc] using hB'
      rw [hB2] at this
      obtain ⟨B, es, g1, g2, g3⟩ := cnZ_some this
      obtain ⟨hj, he⟩ := srcI_ge (c := c) (ids := ids) (i := i) (by omega) hi2
      refine ⟨hi2, B, es, by rw [he]; exact g1, g2, by simp only [if_neg hi]; exact g3⟩
    · rw [List.getElem?_append_right (by omega), List.getElem?_eq_none (by omega)] at hB'
      cases hB'

/-- A heap written out, with some places turned. -/
def setO : List (Option Blk) → Nat → Option Blk → List (Option Blk)
  | [], 0, b => [b]
  | [], i + 1, b => none :: setO [] i b
  | _ :: l, 0, b => b :: l
  | x :: l, i + 1, b => x :: setO l i b
def updO : List (Option Blk) → List (Nat × Option Blk) → List (Option Blk)
  | l, [] => l
  | l, p :: r => updO (setO l p.1 p.2) r

/-- The end of a round, or of a branch, under new numbers. -/
theorem wkCn {fr fr' : List V} {hl hl' l1 l2 : List (Option Blk)} {nx lo nx' : Nat} (c : Nat) (ids : List Nat) (n : Nat) (hlo : lo ≤ c) (hn : ids.Nodup) (hge : ids.all (fun i => decide (c ≤ i)) = true) (hnx : c + ids.length ≤ nx')
    (h1 : mapO (cnB (hL hl) c ids n) (hl.take c) = some l1) (hc : l1.length = c) (h2 : mapO (fun i => cnZ (hL hl) c ids n (hL hl i)) ids = some l2) (hh : hL (l1 ++ l2) = hL hl') (hf : CnL (hL hl) c ids n fr fr') : Wk ⟨fr, hL hl, nx, lo⟩ ⟨fr', hL hl', nx', lo⟩ := by
  intro E a w hr
  have hk := cnH_of h1 hc h2
  rw [hh] at hk
  exact Rel.canon hr n hlo hn (by simpa using hge) hnx hf.len hf.at hk

/-- A loop whose states are told by their heads. -/
theorem Safe.loopC {P : Program} {c : Code} {Q : Ex → St → Prop} {fr : List V} {hl : List (Option Blk)} {nx lo : Nat} {X : Type} (x0 : X) (μ : X → Nat) (Inv : X → Prop) (fo : List Nat) (up : X → List (Nat × V)) (uh : X → List (Nat × Option Blk)) (nx' : Nat)
    (h0 : Inv x0) {fr0 : List V} {hl0 : List (Option Blk)} (e1 : setMany (forget fr fo) (up x0) = fr0) (e2 : updO hl (uh x0) = hl0) (hw : Wk ⟨fr, hL hl, nx, lo⟩ ⟨fr0, hL hl0, nx', lo⟩)
    (hround : ∀ x, Inv x → ∃ fr' hl', setMany (forget fr fo) (up x) = fr' ∧ updO hl (uh x) = hl' ∧ Safe P c ⟨fr', hL hl', nx', lo⟩
      (Ex.andThen (fun s' => ∃ x', μ x' < μ x ∧ Inv x' ∧ ∃ fr'' hl'', setMany (forget fr fo) (up x') = fr'' ∧ updO hl (uh x') = hl'' ∧ Wk s' ⟨fr'', hL hl'', nx', lo⟩) Q)) : Safe P (.loop c) ⟨fr, hL hl, nx, lo⟩ Q := by
  refine Safe.loopW (fun k s => ∃ x, Inv x ∧ μ x = k ∧ s = ⟨setMany (forget fr fo) (up x), hL (updO hl (uh x)), nx', lo⟩) (n := μ x0) ⟨x0, h0, rfl, rfl⟩ (by rw [e1, e2]; exact hw) fun k s ⟨x, hx, hk, hs⟩ => ?_
  obtain ⟨fr', hl', g1, g2, g3⟩ := hround x hx
  subst hs
  rw [g1, g2]
  refine g3.mono fun e s' h => ?_
  cases e with
  | normal =>
    obtain ⟨x', k1, k2, fr'', hl'', k3, k4, k5⟩ := h
    exact ⟨μ x', _, by omega, ⟨x', k2, rfl, rfl⟩, by rw [k3, k4]; exact k5⟩
  | exit i => exact h
  | ret => exact h
@[go_sem] theorem cnB_no (h : Hp) (c : Nat) (ids : List Nat) (n : Nat) : cnB h c ids n none = some none := rfl
@[go_sem] theorem cnB_so (h : Hp) (c : Nat) (ids : List Nat) (n T s v : Nat) (es : List (List V)) : cnB h c ids n (some ⟨T, s, v, es⟩) = (mapO (mapO (cnV h c ids n)) es).map fun es' => some ⟨T, s, v, es'⟩ := rfl
@[go_sem] theorem cnZ_no (h : Hp) (c : Nat) (ids : List Nat) (n : Nat) : cnZ h c ids n none = some none := rfl
@[go_sem] theorem cnZ_so (h : Hp) (c : Nat) (ids : List Nat) (n T s v : Nat) (es : List (List V)) : cnZ h c ids n (some ⟨T, s, v, es⟩) = (mapO (mapO (cnV h c ids n)) es).map fun es' => some ⟨T, s, 0, es'⟩ := rfl
attribute [go_sem] cnV cnV.cnVs setO updO Hp.rest
theorem cnV_map (h : Hp) (c : Nat) (ids : List Nat) (n : Nat) (ds : List D) : mapO (cnV h c ids n) (ds.map V.d) = some (ds.map V.d) := by
  induction ds with
  | nil => rfl
  | cons d ds ih => simp only [List.map_cons, mapO, cnV, ih]
theorem cnVs_map (h : Hp) (c : Nat) (ids : List Nat) (n : Nat) (ds : List D) : cnV.cnVs h c ids n (ds.map V.d) = some (ds.map V.d) := by
  induction ds with
  | nil => rfl
  | cons d ds ih => simp only [List.map_cons, cnV.cnVs, cnV, ih]
attribute [go_sem] cnV_map cnVs_map
end Go.Proofs.YtepahgbgijmipaaEv
