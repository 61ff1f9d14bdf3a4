/- A logic over abstract states for walks, twenty-fourth part: functions that hand back memory of their own. -/
import Derived.Test.YtepahgbgijmipaaEv23
namespace Go.Proofs.YtepahgbgijmipaaEv
open Go Go.RowKit

/-- The contract of a function that may hand back blocks of its own; they stand behind the passed ones. -/
def FnOwn (P : Program) (f : FuncId) (args : List V) (bx : List Blk) (R : V → List Blk → Prop) : Prop :=
  Spec P f args (ofL bx) bx.length fun r h' nx' => ∃ bx', h' = ofL bx' ∧ nx' = bx'.length ∧ SameShape bx (bx'.take bx.length) ∧ R r bx'

theorem FnOwn.mono {P : Program} {f : FuncId} {args : List V} {bx : List Blk} {R R' : V → List Blk → Prop} (hs : FnOwn P f args bx R) (hR : ∀ r b, R r b → R' r b) : FnOwn P f args bx R' :=
  Spec.mono hs fun _ _ _ ⟨bx', h3, h4, h5, h6⟩ => ⟨bx', h3, h4, h5, hR _ _ h6⟩

/-- The caller's number of a callee's block. -/
def liftN (ids : List Nat) (nx j : Nat) : Nat := if j < ids.length then ids.getD j 0 else nx + (j - ids.length)
/-- A callee's value as the caller sees it. -/
def liftV (ids : List Nat) (nx : Nat) : V → V
  | .any => .any
  | .d x => .d x
  | .ip cs o => .ip cs o
  | .ptr j ver i o => .ptr (liftN ids nx j) ver i o
  | .sl j ver off len => .sl (liftN ids nx j) ver off len
  | .agg cs => .agg (liftVs ids nx cs)
  | .tup cs => .tup (liftVs ids nx cs)
  | .fn f cs => .fn f (liftVs ids nx cs)
where liftVs (ids : List Nat) (nx : Nat) : List V → List V
  | [] => []
  | v :: r => liftV ids nx v :: liftVs ids nx r
theorem liftVs_len (ids : List Nat) (nx : Nat) : ∀ cs : List V, (liftV.liftVs ids nx cs).length = cs.length
  | [] => rfl
  | _ :: r => by simp [liftV.liftVs, liftVs_len ids nx r]
theorem liftVs_at (ids : List Nat) (nx : Nat) : ∀ (cs : List V) (j : Nat) (h : j < (liftV.liftVs ids nx cs).length) (h' : j < cs.length), (liftV.liftVs ids nx cs)[j] = liftV ids nx cs[j]
  | [], j, _, h' => by simp at h'
  | v :: r, 0, _, _ => rfl
  | v :: r, j + 1, h, h' => by
    simp only [liftV.liftVs, List.getElem_cons_succ]
    exact liftVs_at ids nx r j (by simpa [liftV.liftVs] using h) (by simpa using h')
def liftB (ids : List Nat) (nx : Nat) : Blk → Blk
  | ⟨T, s, v, es⟩ => ⟨T, s, v, es.map fun e => e.map (liftV ids nx)⟩
theorem liftB_T (ids : List Nat) (nx : Nat) (B : Blk) : (liftB ids nx B).T = B.T ∧ (liftB ids nx B).s = B.s ∧ (liftB ids nx B).ver = B.ver ∧ (liftB ids nx B).es = B.es.map fun e => e.map (liftV ids nx) := ⟨rfl, rfl, rfl, rfl⟩

/-- New blocks laid into a heap. -/
def Hp.news (h : Hp) : Nat → List Blk → Hp
  | _, [] => h
  | nx, B :: r => (h.upd nx B).news (nx + 1) r
theorem Hp.news_at : ∀ (bs : List Blk) (h : Hp) (nx i : Nat), h.news nx bs i = if nx ≤ i ∧ i < nx + bs.length then bs[i - nx]? else h i
  | [], h, nx, i => by rw [Hp.news, if_neg (by simp)]
  | B :: r, h, nx, i => by
    rw [Hp.news, Hp.news_at r]
    by_cases hi : i = nx
    · subst hi; rw [if_neg (by omega), if_pos (by simp)]; simp [Hp.upd]
    · by_cases h1 : nx ≤ i
      · by_cases h2 : i < nx + 1 + r.length
        · rw [if_pos ⟨by omega, h2⟩, if_pos ⟨h1, by simp; omega⟩]
          have : i - nx = (i - (nx + 1)) + 1 := by omega
          rw [this, List.getElem?_cons_succ]
        · rw [if_neg (by omega), if_neg (by simp; omega)]
          simp [Hp.upd, hi]
      · rw [if_neg (by omega), if_neg (by omega)]
        simp [Hp.upd, hi]
def newL : List (Option Blk) → Nat → List Blk → List (Option Blk)
  | hl, _, [] => hl
  | hl, nx, B :: r => newL (setL hl nx B) (nx + 1) r
theorem hL_news : ∀ (bs : List Blk) (hl : List (Option Blk)) (nx : Nat), (hL hl).news nx bs = hL (newL hl nx bs)
  | [], _, _ => rfl
  | B :: r, hl, nx => by rw [Hp.news, newL, hL_set, hL_news r]

/-- The caller's heap behind the call. -/
def Hp.owned (h : Hp) (ids : List Nat) (nx : Nat) (bx' : List Blk) : Hp := (h.back (ids.zip ((bx'.take ids.length).map (liftB ids nx)))).news nx ((bx'.drop ids.length).map (liftB ids nx))
def ownL (hl : List (Option Blk)) (ids : List Nat) (nx : Nat) (bx' : List Blk) : List (Option Blk) := newL (backL hl ids ((bx'.take ids.length).map (liftB ids nx))) nx ((bx'.drop ids.length).map (liftB ids nx))
theorem hL_owned (hl : List (Option Blk)) (ids : List Nat) (nx : Nat) (bx' : List Blk) : (hL hl).owned ids nx bx' = hL (ownL hl ids nx bx') := by
  rw [Hp.owned, hL_back, hL_news, ownL]

section
variable {P : Program} {w : World} {S : Nat → Prop} {h : Hp} {m : Nat → Nat × Nat}

theorem FnOwn.call {nx : Nat} {f : FuncId} {args args' : List V} {bx : List Blk} {R : V → List Blk → Prop} (hs : FnOwn P f args' bx R) {ids : List Nat} (hn : ids.Nodup) (hl : ids.length = bx.length)
    (hb : ∀ (j id : Nat), ids[j]? = some id → h id = bx[j]?) (hp : ∀ B ∈ bx, PureB B) (ha : All2 (Arg ids) args args') :
    Spec P f args h nx fun r h' nx' => ∃ r0 bx', r = liftV ids nx r0 ∧ h' = h.owned ids nx bx' ∧ nx' = nx + (bx'.length - ids.length) ∧ R r0 bx' := fun w S m vs H hvs => by
  have Hc := H.part hn hl hb hp
  have hvs' : All2 (RV w S (ofL bx) (fun j => m (ids.getD j 0)) (low bx.length)) vs args' :=
    ⟨hvs.1.trans ha.1, fun j h1 h2 => (ha.2 j (by have := ha.1; omega) h2).rv hb hl (hvs.2 j h1 (by have := ha.1; omega))⟩
  refine (hs w S _ vs Hc hvs').mono fun e w' ⟨v, r, h', nx', S', m', g1, ⟨bx', g4, g2, g5, g7⟩, g8, g9, g10⟩ => ?_
  subst g2; subst g4
  have hkl : bx.length ≤ bx'.length := by have := g5.1; simp only [List.length_take] at this; omega
  have idget : ∀ (j : Nat), j < ids.length → ids[j]? = some (ids.getD j 0) := fun j hj => by
    simp [List.getD_eq_getElem?_getD, List.getElem?_eq_getElem hj]
  have hidlt : ∀ (j : Nat), j < ids.length → ids.getD j 0 < nx := fun j hj => by
    have h1 := hb j _ (idget j hj)
    rw [List.getElem?_eq_getElem (by omega)] at h1
    exact H.lt _ _ h1
  have lo_ids : ∀ (j : Nat), j < ids.length → liftN ids nx j = ids.getD j 0 := fun j hj => by simp [liftN, hj]
  have lo_new : ∀ (j : Nat), ids.length ≤ j → liftN ids nx j = nx + (j - ids.length) := fun j hj => by simp [liftN, show ¬ j < ids.length by omega]
  have lolt : ∀ (j : Nat), j < bx'.length → liftN ids nx j < nx + (bx'.length - ids.length) := fun j hj => by
    by_cases hj' : j < ids.length
    · rw [lo_ids j hj']; have := hidlt j hj'; omega
    · rw [lo_new j (by omega)]; omega
  have loinj : ∀ (i j : Nat), liftN ids nx i = liftN ids nx j → i = j := fun i j he => by
    by_cases hi : i < ids.length
    · rw [lo_ids i hi] at he
      by_cases hj : j < ids.length
      · rw [lo_ids j hj] at he
        have e1 : ids[i] = ids[j] := by simpa [List.getD_eq_getElem?_getD, List.getElem?_eq_getElem hi, List.getElem?_eq_getElem hj] using he
        exact (List.getElem_inj hn).1 e1
      · rw [lo_new j (by omega)] at he
        have := hidlt i hi; omega
    · rw [lo_new i (by omega)] at he
      by_cases hj : j < ids.length
      · rw [lo_ids j hj] at he
        have := hidlt j hj; omega
      · rw [lo_new j (by omega)] at he; omega
  -- the new heap
  have hzl : ids.length = ((bx'.take ids.length).map (liftB ids nx)).length := by simp only [List.length_map, List.length_take]; omega
  have hzip : (ids.zip ((bx'.take ids.length).map (liftB ids nx))).map (·.1) = ids := by rw [List.map_fst_zip]; omega
  have hat : ∀ (j : Nat) (B : Blk), bx'[j]? = some B → h.owned ids nx bx' (liftN ids nx j) = some (liftB ids nx B) := fun j B hB => by
    have hjl := (List.getElem?_eq_some_iff.1 hB).1
    unfold Hp.owned
    rw [Hp.news_at]
    by_cases hj : j < ids.length
    · rw [lo_ids j hj, if_neg (by have := hidlt j hj; omega)]
      exact Hp.back_at hn (idget j hj) (by rw [List.getElem?_map, List.getElem?_take, if_pos hj, hB]; rfl)
    · rw [lo_new j (by omega), if_pos (by simp only [List.length_map, List.length_drop]; omega), List.getElem?_map, List.getElem?_drop]
      have : ids.length + (nx + (j - ids.length) - nx) = j := by omega
      rw [this, hB]; rfl
  have hother : ∀ i, i ∉ ids → i < nx → h.owned ids nx bx' i = h i := fun i hid hi => by
    unfold Hp.owned
    rw [Hp.news_at, if_neg (by omega)]
    exact Hp.back_other (by rw [hzip]; exact hid)
  have hinv : ∀ i B, h.owned ids nx bx' i = some B → (∃ j B0, bx'[j]? = some B0 ∧ B = liftB ids nx B0 ∧ liftN ids nx j = i) ∨ (i ∉ ids ∧ i < nx ∧ h i = some B) := fun i B hB => by
    by_cases hi : i < nx
    · by_cases hid : i ∈ ids
      · obtain ⟨j, hj, rfl⟩ := List.mem_iff_getElem.1 hid
        have h2 : bx'[j]? = some bx'[j] := List.getElem?_eq_getElem (by omega)
        have := hat j _ h2
        have e1 : liftN ids nx j = ids[j] := by rw [lo_ids j hj]; simp [List.getD_eq_getElem?_getD, List.getElem?_eq_getElem hj]
        rw [e1, hB] at this
        cases this
        exact .inl ⟨j, _, h2, rfl, e1⟩
      · rw [hother i hid hi] at hB
        exact .inr ⟨hid, hi, hB⟩
    · unfold Hp.owned at hB
      rw [Hp.news_at] at hB
      split at hB
      · rename_i hr
        rw [List.getElem?_map, List.getElem?_drop] at hB
        obtain ⟨B0, h1, h2⟩ := Option.map_eq_some_iff.1 hB
        exact .inl ⟨_, B0, h1, h2.symm, by rw [lo_new _ (by omega)]; omega⟩
      · rw [Hp.back_other (by rw [hzip]; intro hm; obtain ⟨j, hj, rfl⟩ := List.mem_iff_getElem.1 hm; have := hidlt j hj; simp [List.getD_eq_getElem?_getD, List.getElem?_eq_getElem hj] at this; omega)] at hB
        have := H.lt i B hB
        exact absurd this hi
  -- a passed block stays where it was
  have hm : ∀ (j : Nat) (hj : j < bx.length), m' j = m (ids.getD j 0) ∧ (bx'[j]'(by omega)).s = bx[j].s ∧ (bx'[j]'(by omega)).es.length = bx[j].es.length ∧ (bx'[j]'(by omega)).ver = bx[j].ver ∧ h (ids.getD j 0) = some bx[j] := fun j hj => by
    obtain ⟨B, hB, hv, hsame⟩ := g8.ids j (bx'[j]'(by omega)) hj (List.getElem?_eq_getElem (by omega))
    have hB' : B = bx[j] := by
      have : bx[j]? = some B := hB
      rw [List.getElem?_eq_getElem hj] at this
      exact (Option.some.inj this).symm
    subst hB'
    obtain ⟨s1, s2, s3, s4⟩ := g5.2 j hj (by simp only [List.length_take]; omega)
    simp only [List.getElem_take] at s1 s2 s3 s4
    refine ⟨(hsame s3.symm).1, s2, s4, s3, ?_⟩
    rw [hb j _ (idget j (by omega)), List.getElem?_eq_getElem hj]
  have himgc : ∀ i B, ofL bx i = some B → ∃ id, id ∈ ids ∧ h id = some B ∧ ids.getD i 0 = id := fun i B hB => by
    obtain ⟨hi, he⟩ := List.getElem?_eq_some_iff.1 (show bx[i]? = some B from hB)
    have h1 := idget i (by omega)
    exact ⟨_, List.mem_of_getElem? h1, by rw [hb i _ h1]; exact hB, rfl⟩
  have hmlt : ∀ i B, h i = some B → (m i).1 < w.heap.size := fun i B hB => by
    obtain ⟨C, c1, _⟩ := H.blk i B hB
    exact (Array.getElem?_eq_some_iff.1 c1).1
  obtain ⟨m2, hm2⟩ : ∃ m2 : Nat → Nat × Nat, m2 = fun i => if nx ≤ i then m' (ids.length + (i - nx)) else m i := ⟨_, rfl⟩
  have m2lift : ∀ (j : Nat), j < bx'.length → m2 (liftN ids nx j) = m' j := fun j hj => by
    rw [hm2]
    by_cases hj' : j < ids.length
    · simp only [lo_ids j hj']
      rw [if_neg (by have := hidlt j hj'; omega), (hm j (by omega)).1]
    · simp only [lo_new j (by omega)]
      rw [if_pos (by omega)]
      congr 1; omega
  have m2lt : ∀ i, i < nx → m2 i = m i := fun i hi => by rw [hm2]; simp only [if_neg (show ¬ nx ≤ i by omega)]
  have e : Ext w S h m (low nx) w' S' (h.owned ids nx bx') m2 (low (nx + (bx'.length - ids.length))) := by
    refine ⟨g8.os, g8.tape, g8.output, g8.size, fun i hi => by
      have : i < nx := hi
      show i < _
      omega, g8.sub, g8.sNew, fun b hb1 hb2 => g8.keep b hb1 fun i B hB => ?_, fun i B' hi hB' => ?_, fun i B' hB' => ?_⟩
    · obtain ⟨id, _, k2, k3⟩ := himgc i B hB
      simp only [k3]
      exact hb2 id B k2
    · have hi : i < nx := hi
      rcases hinv i B' hB' with ⟨j, B0, k1, rfl, k3⟩ | ⟨_, _, k2⟩
      · obtain ⟨hj', rfl⟩ := List.getElem?_eq_some_iff.1 k1
        have hj : j < ids.length := by
          by_cases hj : j < ids.length
          · exact hj
          · rw [lo_new j (by omega)] at k3; omega
        obtain ⟨q1, q2, q3, q4, q5⟩ := hm j (by omega)
        rw [lo_ids j hj] at k3
        rw [k3] at q5 q1
        refine ⟨bx[j], q5, by rw [(liftB_T ids nx _).2.2.1, q4]; exact Nat.le_refl _, fun _ => ⟨m2lt i hi, q2, by rw [(liftB_T ids nx _).2.2.2, List.length_map]; exact q3⟩⟩
      · exact ⟨B', k2, Nat.le_refl _, fun _ => ⟨m2lt i hi, rfl, rfl⟩⟩
    · rcases hinv i B' hB' with ⟨j, B0, k1, rfl, k3⟩ | ⟨_, hi, k2⟩
      · obtain ⟨hj', rfl⟩ := List.getElem?_eq_some_iff.1 k1
        have e2 := m2lift j hj'
        rw [k3] at e2
        by_cases hj : j < ids.length
        · obtain ⟨q1, q2, q3, q4, q5⟩ := hm j (by omega)
          rw [lo_ids j hj] at k3
          rw [k3] at q5 q1
          exact .inl ⟨bx[j], q5, by rw [e2, q1]⟩
        · rcases g8.img j _ (show ofL bx' j = _ from k1) with ⟨B, z1, _⟩ | z1
          · obtain ⟨z2, _⟩ := List.getElem?_eq_some_iff.1 (show bx[j]? = some B from z1)
            omega
          · exact .inr (by rw [e2]; exact z1)
      · exact .inl ⟨B', k2, by rw [m2lt i hi]⟩
  have lift : ∀ {v : Value} {x : V}, RV w' S' (ofL bx') m' (low bx'.length) v x → RV w' S' (h.owned ids nx bx') m2 (low (nx + (bx'.length - ids.length))) v (liftV ids nx x) := fun hv => by
    induction hv with
    | any v => exact .any v
    | d v x hd => exact .d v x hd
    | ptr v j ver i o hlt hver hvv =>
      have hlt : j < bx'.length := hlt
      have h2 : bx'[j]? = some bx'[j] := List.getElem?_eq_getElem hlt
      have h3 := hat j _ h2
      refine .ptr v _ ver i o (lolt j hlt) (fun B hB => ?_) (fun B hB he => ?_)
      · rw [h3] at hB; cases hB
        exact hver bx'[j] h2
      · rw [h3] at hB; cases hB
        have := hvv _ h2 he
        rw [m2lift j hlt]
        exact ⟨by rw [(liftB_T ids nx _).2.2.2, List.length_map]; exact this.1, this.2⟩
    | ip b off o cs cells hS hl hc hr => exact .ip b off o cs cells hS hl hc hr
    | sl v j ver off len hlt hver hvv =>
      have hlt : j < bx'.length := hlt
      have h2 : bx'[j]? = some bx'[j] := List.getElem?_eq_getElem hlt
      have h3 := hat j _ h2
      refine .sl v _ ver off len (lolt j hlt) (fun B hB => ?_) (fun B hB he => ?_)
      · rw [h3] at hB; cases hB
        exact hver bx'[j] h2
      · rw [h3] at hB; cases hB
        have := hvv _ h2 he
        rw [m2lift j hlt]
        exact ⟨by rw [(liftB_T ids nx _).2.2.2, List.length_map]; exact this.1, this.2⟩
    | agg vs cs hl hr ih => exact .agg vs _ (by rw [liftVs_len]; exact hl) fun j h1 h2 => by rw [liftVs_at ids nx cs j h2 (by rw [liftVs_len] at h2; exact h2)]; exact ih j h1 _
    | tup vs cs hl hr ih => exact .tup vs _ (by rw [liftVs_len]; exact hl) fun j h1 h2 => by rw [liftVs_at ids nx cs j h2 (by rw [liftVs_len] at h2; exact h2)]; exact ih j h1 _
    | fn f vs cs hl hr ih => exact .fn f vs _ (by rw [liftVs_len]; exact hl) fun j h1 h2 => by rw [liftVs_at ids nx cs j h2 (by rw [liftVs_len] at h2; exact h2)]; exact ih j h1 _
  refine ⟨v, liftV ids nx r, _, _, S', m2, g1, ⟨r, bx', rfl, rfl, rfl, g7⟩, e, ⟨fun b hb1 => ⟨(g9.st b hb1).1, fun i B' hB' => ?_⟩, fun i j B B' k1 k2 he => ?_, fun i B hB => ?_, fun i B' hB' => ?_⟩, lift g10⟩
  · rcases hinv i B' hB' with ⟨j, B0, k1, rfl, rfl⟩ | ⟨_, hi, k2⟩
    · obtain ⟨hj', _⟩ := List.getElem?_eq_some_iff.1 k1
      rw [m2lift j hj']
      exact (g9.st b hb1).2 j _ k1
    · rw [m2lt i hi]
      rcases g8.sNew b hb1 with h1 | h1
      · exact (H.st b h1).2 i B' k2
      · have := hmlt i B' k2; omega
  · have mixed : ∀ j (B0 : Blk) i (B' : Blk), bx'[j]? = some B0 → i ∉ ids → h i = some B' → (m' j).1 = (m i).1 → False := fun j B0 i B' z1 z2 z3 z4 => by
      have hjl := (List.getElem?_eq_some_iff.1 z1).1
      by_cases hj : j < ids.length
      · obtain ⟨q1, q2, q3, q4, q5⟩ := hm j (by omega)
        rw [q1] at z4
        have := H.inj _ _ _ _ q5 z3 z4
        exact z2 (this ▸ List.mem_of_getElem? (idget j hj))
      · rcases g8.img j _ (show ofL bx' j = _ from z1) with ⟨B, y1, _⟩ | y1
        · obtain ⟨y2, _⟩ := List.getElem?_eq_some_iff.1 (show bx[j]? = some B from y1)
          omega
        · have := hmlt i B' z3; omega
    rcases hinv i B k1 with ⟨p, B0, a1, rfl, rfl⟩ | ⟨a1, a2, a3⟩
    · have hp' := (List.getElem?_eq_some_iff.1 a1).1
      rw [m2lift p hp'] at he
      rcases hinv j B' k2 with ⟨q, B1, b1, rfl, rfl⟩ | ⟨b1, b2, b3⟩
      · have hq' := (List.getElem?_eq_some_iff.1 b1).1
        rw [m2lift q hq'] at he
        rw [g9.inj p q _ _ a1 b1 he]
      · rw [m2lt j b2] at he
        exact (mixed p B0 j B' a1 b1 b3 he).elim
    · rw [m2lt i a2] at he
      rcases hinv j B' k2 with ⟨q, B1, b1, rfl, rfl⟩ | ⟨b1, b2, b3⟩
      · have hq' := (List.getElem?_eq_some_iff.1 b1).1
        rw [m2lift q hq'] at he
        exact (mixed q B1 i B b1 a1 a3 he.symm).elim
      · rw [m2lt j b2] at he
        exact H.inj i j B B' a3 b3 he
  · rcases hinv i B hB with ⟨j, B0, k1, rfl, rfl⟩ | ⟨_, hi, k2⟩
    · exact lolt j (List.getElem?_eq_some_iff.1 k1).1
    · show i < _
      omega
  · rcases hinv i B' hB' with ⟨j, B0, k1, rfl, rfl⟩ | ⟨hno, hi, k2⟩
    · have hj' := (List.getElem?_eq_some_iff.1 k1).1
      obtain ⟨C, c1, c2, c3, c4, c5, c6, c7⟩ := g9.blk j B0 k1
      rw [m2lift j hj']
      obtain ⟨t1, t2, t3, t4⟩ := liftB_T ids nx B0
      refine ⟨C, c1, c2, by rw [t4, List.length_map]; exact c3, c4, fun e he => ?_, c6, fun t a1 a2 => ?_⟩
      · rw [t4] at he
        obtain ⟨e', he', rfl⟩ := List.mem_map.1 he
        rw [List.length_map]
        exact c5 e' he'
      · have hfe : (liftB ids nx B0).es.flatten = B0.es.flatten.map (liftV ids nx) := by rw [t4, List.map_flatten]
        have a3 : t < B0.es.flatten.length := by rw [hfe, List.length_map] at a2; exact a2
        have : (liftB ids nx B0).es.flatten[t] = liftV ids nx B0.es.flatten[t] := by
          rw [List.getElem_of_eq hfe, List.getElem_map]
        rw [this]
        exact lift (c7 t a1 a3)
    · obtain ⟨C, c1, c2, c3, c4, c5, c6, c7⟩ := H.blk i B' k2
      rw [m2lt i hi]
      refine ⟨C, ?_, c2, c3, c4, c5, c6, fun t a1 a2 => (c7 t a1 a2).ext e H⟩
      rw [g8.keep _ (hmlt i B' k2) fun q B hB => ?_]
      · exact c1
      · obtain ⟨id, z1, z2, z3⟩ := himgc q B hB
        simp only [z3]
        intro he
        have := H.inj id i B B' z2 k2 he
        subst this
        exact hno z1

/-- A call by a contract, whatever it says of the result. -/
theorem SafeL.callR {ops : Array Oper} {dst : Option Tmp} {ty : TypeId} {pos : String} {after : Array Edge} {l : List Oper} {K : St → Prop} {fr : List V} {hl : List (Option Blk)} {nx lo : Nat} {fo : Operand} {args : Array Operand} {ats : Array TypeId}
    {g : FuncId} {caps vs : List V} {ids : List Nat} {bx : List Blk} {args' : List V} {R : V → List Blk → Prop} (hf : calleeOf (evO fr fo) = some (g, caps)) (he : enters P g = true) (hv : args.toList.map (evO fr) ++ caps = vs) (hi : idsOf [] vs = ids) (hargs : argF.argsF ids vs = some args') (hn : ids.Nodup) (hbx : mapO (hL hl) ids = some bx) (hp : ∀ B ∈ bx, PureB B)
    (hs : FnSpec P g args' bx R) (hK : ∀ r bx', R r bx' → SafeL P ops l ⟨put fr dst r, hL (backL hl ids bx'), nx, lo⟩ K) : SafeL P ops (⟨dst, .call { callee := .value fo, args := args, argTypes := ats }, ty, pos, after, none⟩ :: l) ⟨fr, hL hl, nx, lo⟩ K := by
  subst hv
  exact SafeL.callBox hf he ids hargs hn hbx hp hs hK

/-- A call that hands back blocks of its own. -/
theorem SafeL.callO {ops : Array Oper} {dst : Option Tmp} {ty : TypeId} {pos : String} {after : Array Edge} {l : List Oper} {K : St → Prop} {fr : List V} {hl : List (Option Blk)} {nx lo : Nat} {fo : Operand} {args : Array Operand} {ats : Array TypeId}
    {g : FuncId} {caps vs : List V} {ids : List Nat} {bx : List Blk} {args' : List V} {R : V → List Blk → Prop} (hf : calleeOf (evO fr fo) = some (g, caps)) (he : enters P g = true) (hv : args.toList.map (evO fr) ++ caps = vs) (hi : idsOf [] vs = ids) (hargs : argF.argsF ids vs = some args') (hn : ids.Nodup) (hbx : mapO (hL hl) ids = some bx) (hp : ∀ B ∈ bx, PureB B)
    (hs : FnOwn P g args' bx R) (hK : ∀ r bx', R r bx' → SafeL P ops l ⟨put fr dst (liftV ids nx r), hL (ownL hl ids nx bx'), nx + (bx'.length - ids.length), lo⟩ K) : SafeL P ops (⟨dst, .call { callee := .value fo, args := args, argTypes := ats }, ty, pos, after, none⟩ :: l) ⟨fr, hL hl, nx, lo⟩ K := by
  subst hv
  obtain ⟨l1, l2⟩ := mapO_mem hbx
  refine SafeL.call rfl rfl hf he (hs.call (nx := nx) hn l1 (fun j id hj => ?_) hp (argsF_sound hargs)) fun r h' nx' ⟨r0, bx', h1, h2, h3, h4⟩ => ?_
  · obtain ⟨hj1, hj2⟩ := List.getElem?_eq_some_iff.1 hj
    have := l2 j hj1 (by omega)
    rw [hj2] at this
    show hL hl id = bx[j]?
    rw [this, List.getElem?_eq_getElem (by omega)]
  · subst h1; subst h2; subst h3
    rw [hL_owned]
    exact hK r0 bx' h4

/-- What holds where such a function is left. -/
def RetO (P : Program) (rs : List ResultVar) (bx : List Blk) (R : V → List Blk → Prop) : Ex → St → Prop := fun e s =>
  (e = .normal ∨ e = .ret) ∧ ∃ r, resV P rs s = some r ∧ ∃ n ids y bx', ids.Nodup ∧ (∀ i ∈ ids, bx.length ≤ i) ∧ cnV s.h bx.length ids n r = some y ∧ CnH s.h (ofL bx') bx.length ids n ∧ bx'.length = bx.length + ids.length ∧ SameShape bx (bx'.take bx.length) ∧ R y bx'

theorem FnOwn.of_spec {f : FuncId} {args : List V} {bx : List Blk} {R : V → List Blk → Prop}
    (hs : Spec P f args (ofL bx) bx.length fun r h' _ => ∃ n ids y bx', ids.Nodup ∧ (∀ i ∈ ids, bx.length ≤ i) ∧ cnV h' bx.length ids n r = some y ∧ CnH h' (ofL bx') bx.length ids n ∧ bx'.length = bx.length + ids.length ∧ SameShape bx (bx'.take bx.length) ∧ R y bx') : FnOwn P f args bx R := fun w S m vs H ha =>
  (hs w S m vs H ha).mono fun _ w' ⟨v, _, h', _, S', m', h1, ⟨n, ids, y, bx', k1, k2, k3, k4, k5, k6, k7⟩, h6, h7, h8⟩ =>
    ⟨v, y, ofL bx', bx'.length, _, _, h1, ⟨bx', rfl, rfl, k6, k7⟩, h6.canon (fun i B hB => H.lt i B hB) (Nat.le_refl _) k2 k4 (by omega), h7.canon k1 k2 k4 (by omega), cnV_sound h7 k4 (by omega) h8 k3⟩

theorem FnOwn.enter {f : FuncId} {fn : Func} {c : Code} {args fr : List V} {bx : List Blk} {hl : List (Option Blk)} {nt k : Nat} {rs : List ResultVar} {R : V → List Blk → Prop} (hf : P.funcs[f]? = some fn) (hb : fn.body = some c) (hrs : fn.results.toList = rs) (hn : fn.ntmps = nt)
    (hfr : args ++ List.replicate (nt - args.length) .any = fr) (hbx : bx.map some = hl) (hk : bx.length = k) (hs : Safe P c ⟨fr, hL hl, k, k⟩ (RetO P rs bx R)) : FnOwn P f args bx R := by
  subst hn; subst hfr; subst hbx; subst hk; subst hrs
  refine FnOwn.of_spec (Spec.of_body hf hb ?_)
  rw [ofL_hL]
  exact hs
theorem RetO.mk {rs : List ResultVar} {bx bx' : List Blk} {R : V → List Blk → Prop} {fr : List V} {hl l1 l2 : List (Option Blk)} {nx lo k : Nat} {r y : V} {e : Ex} (he : e = .normal ∨ e = .ret) (ids : List Nat) (hr : resV P rs ⟨fr, hL hl, nx, lo⟩ = some r) (hk : bx.length = k) (n : Nat) (hn : ids.Nodup) (hge : ids.all (fun i => decide (k ≤ i)) = true) (hy : cnV (hL hl) k ids n r = some y)
    (h1 : mapO (cnB (hL hl) k ids n) (hl.take k) = some l1) (hc : l1.length = k) (h2 : mapO (fun i => cnZ (hL hl) k ids n (hL hl i)) ids = some l2) (hb : l1 ++ l2 = bx'.map some) (hsh : SameShape bx (bx'.take k)) (hR : R y bx') : RetO P rs bx R e ⟨fr, hL hl, nx, lo⟩ := by
  subst hk
  refine ⟨he, r, hr, n, ids, y, bx', hn, by simpa using hge, hy, ?_, ?_, hsh, hR⟩
  · have := cnH_of h1 hc h2
    rw [hb, ← ofL_hL] at this
    exact this
  · have e1 := congrArg List.length hb
    simp only [List.length_append, List.length_map] at e1
    have e2 := (mapO_mem h2).1
    omega
/-- A function whose blocks nobody writes to any more. -/
theorem FnOwn.frozen {f : FuncId} {args : List V} {bx : List Blk} {R R' : V → List Blk → Prop} (hs : FnOwn P f args bx R)
    (hR : ∀ r b, R r b → ∃ n y bx', fzV (ofL b) bx.length n r = some y ∧ fzBs (ofL b) bx.length n = some bx' ∧ SameShape bx bx' ∧ R' y bx') : FnSpec P f args bx R' :=
  FnSpec.of_spec (Spec.mono hs fun r h' nx' ⟨b, h1, _, _, h3⟩ => by
    subst h1
    exact hR r b h3)
end
theorem liftN_lo {ids : List Nat} {nx j : Nat} : liftN ids nx j = if j < ids.length then ids.getD j 0 else nx + (j - ids.length) := rfl
theorem liftV_map (ids : List Nat) (nx : Nat) (ds : List D) : (ds.map V.d).map (liftV ids nx) = ds.map V.d := by
  induction ds with
  | nil => rfl
  | cons d ds ih => simp only [List.map_cons, liftV, ih]
attribute [go_sem] liftN_lo liftV liftV.liftVs liftB newL ownL liftV_map
end Go.Proofs.YtepahgbgijmipaaEv
