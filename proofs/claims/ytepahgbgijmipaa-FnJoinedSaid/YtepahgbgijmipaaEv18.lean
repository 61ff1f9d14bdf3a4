/- A logic over abstract states for walks, eighteenth part: freezing within a walk, loops. -/
import Derived.Test.YtepahgbgijmipaaEv17
namespace Go.Proofs.YtepahgbgijmipaaEv
open Go Go.RowKit

section
variable {P : Program} {w : World} {S : Nat → Prop} {h : Hp} {m : Nat → Nat × Nat} {nx : Nat → Prop}

/-- A value behind which the blocks from k on are read by value. -/
def fzc (h : Hp) (k n : Nat) : V → Option V
  | .d x => some (.d x)
  | .ip cs o => some (.ip cs o)
  | .ptr id ver i o => if id < k then some (.ptr id ver i o) else none
  | .sl id ver off len => if id < k then some (.sl id ver off len) else (fzD h k n (.sl id ver off len)).map .d
  | .agg cs => (fzcs h k n cs).map .agg
  | .tup cs => (fzcs h k n cs).map .tup
  | .fn f cs => (fzcs h k n cs).map (.fn f)
  | .any => none
where fzcs (h : Hp) (k n : Nat) : List V → Option (List V)
  | [] => some []
  | v :: r => match fzc h k n v, fzcs h k n r with
    | some v', some r' => some (v' :: r')
    | _, _ => none

/-- What stays of the heap. -/
def Kept (h h' : Hp) (k n : Nat) : Prop := ∀ i B', h' i = some B' → i < k ∧ ∃ B es, h i = some B ∧ mapO (mapO (fzc h k n)) B.es = some es ∧ B' = { B with es := es }

theorem fzcs_mem {k n : Nat} : ∀ {cs cs' : List V}, fzc.fzcs h k n cs = some cs' → cs.length = cs'.length ∧ ∀ (j : Nat) (h1 : j < cs.length) (h2 : j < cs'.length), fzc h k n cs[j] = some cs'[j]
  | [], cs', he => by simp [fzc.fzcs] at he; subst he; exact ⟨rfl, fun j a => by simp at a⟩
  | v :: r, cs', he => by
    simp only [fzc.fzcs] at he
    split at he
    · rename_i v' r' h1 h2
      cases he
      obtain ⟨a, b⟩ := fzcs_mem h2
      refine ⟨by simp [a], fun j g1 g2 => ?_⟩
      cases j with
      | zero => exact h1
      | succ j => exact b j (by simpa using g1) (by simpa using g2)
    · cases he

theorem Kept.shape {h h' : Hp} {k n : Nat} (hk : Kept h h' k n) {i : Nat} {B' : Blk} (hB : h' i = some B') : i < k ∧ ∃ B, h i = some B ∧ B.T = B'.T ∧ B.s = B'.s ∧ B.ver = B'.ver ∧ B.es.length = B'.es.length := by
  obtain ⟨h1, B, es, h2, h3, rfl⟩ := hk i B' hB
  exact ⟨h1, B, h2, rfl, rfl, rfl, (mapO_mem h3).1⟩

theorem fzc_sound (H : HR w S h m nx) {k n : Nat} {h' : Hp} (hk : Kept h h' k n) {v : Value} {x : V} (hv : RV w S h m nx v x) : ∀ {y : V}, fzc h k n x = some y → RV w (Fz S h m k) h' m (low k) v y := by
  induction hv with
  | any v => intro y he; simp [fzc] at he
  | d v x hd =>
    intro y he
    simp [fzc] at he; subst he
    exact .d _ _ (hd.mono (fun b hb => .inl hb) fun _ _ => rfl)
  | ptr v id ver i o hlt hver hvv =>
    intro y he
    simp only [fzc] at he
    split at he
    · rename_i hid
      cases he
      refine .ptr v id ver i o hid (fun B' hB' => ?_) (fun B' hB' e => ?_)
      · obtain ⟨_, B, hB, e1, e2, e3, e4⟩ := hk.shape hB'
        rw [← e3]; exact hver B hB
      · obtain ⟨_, B, hB, e1, e2, e3, e4⟩ := hk.shape hB'
        have := hvv B hB (e3.trans e)
        rw [e2, e4] at this
        exact this
    · cases he
  | ip b off o cs cells hS hl hc hr =>
    intro y he
    simp [fzc] at he; subst he
    exact .ip b off o cs cells (.inl hS) hl hc fun j a b => (hr j a b).mono (fun b hb => .inl hb) fun _ _ => rfl
  | sl v id ver off len hlt hver hvv =>
    intro y he
    simp only [fzc] at he
    split at he
    · rename_i hid
      cases he
      refine .sl v id ver off len hid (fun B' hB' => ?_) (fun B' hB' e => ?_)
      · obtain ⟨_, B, hB, e1, e2, e3, e4⟩ := hk.shape hB'
        rw [← e3]; exact hver B hB
      · obtain ⟨_, B, hB, e1, e2, e3, e4⟩ := hk.shape hB'
        have := hvv B hB (e3.trans e)
        rw [e2, e4] at this
        exact this
    · cases hq : fzD h k n (.sl id ver off len) with
      | none => simp [hq] at he
      | some d =>
        simp [hq] at he; subst he
        exact .d _ _ (fzD_sound H k n v _ d (.sl v id ver off len hlt hver hvv) hq)
  | agg vs cs hl hr ih =>
    intro y he
    simp only [fzc] at he
    cases hq : fzc.fzcs h k n cs with
    | none => simp [hq] at he
    | some cs' =>
      simp [hq] at he; subst he
      obtain ⟨a, b⟩ := fzcs_mem hq
      exact .agg vs cs' (by omega) fun j h1 h2 => ih j h1 (by omega) (b j (by omega) h2)
  | tup vs cs hl hr ih =>
    intro y he
    simp only [fzc] at he
    cases hq : fzc.fzcs h k n cs with
    | none => simp [hq] at he
    | some cs' =>
      simp [hq] at he; subst he
      obtain ⟨a, b⟩ := fzcs_mem hq
      exact .tup vs cs' (by omega) fun j h1 h2 => ih j h1 (by omega) (b j (by omega) h2)
  | fn f vs cs hl hr ih =>
    intro y he
    simp only [fzc] at he
    cases hq : fzc.fzcs h k n cs with
    | none => simp [hq] at he
    | some cs' =>
      simp [hq] at he; subst he
      obtain ⟨a, b⟩ := fzcs_mem hq
      exact .fn f vs cs' (by omega) fun j h1 h2 => ih j h1 (by omega) (b j (by omega) h2)

/-- Freezing: the blocks from a number on are read by value from here on. -/
theorem Rel.freeze {E : Ent} {st st' : St} {a : Act} (hr : Rel E st a w) (n : Nat) (hlo : st'.lo = st.lo) (hlo' : st.lo ≤ st'.nx) (hlen : st'.fr.length = st.fr.length)
    (hfr : ∀ (t : Nat) (h1 : t < st'.fr.length) (h2 : t < st.fr.length), st'.fr[t] = .any ∨ fzc st.h st'.nx n st.fr[t] = some st'.fr[t]) (hk : Kept st.h st'.h st'.nx n) : Rel E st' a w := by
  obtain ⟨hE, S, m, e0, H, hl, hf, hd⟩ := hr
  have hfz : ∀ b, Fz S st.h m st'.nx b → E.S b ∨ E.w.heap.size ≤ b := fun b hb => by
    rcases hb with hb | ⟨i, B, hB, hi, rfl⟩
    · exact e0.sNew b hb
    · rcases e0.img i B hB with ⟨B0, hj, he⟩ | hge
      · have := E.lt i B0 hj; omega
      · exact .inr hge
  have hcell : ∀ {v : Value} {x y : V}, RV w S st.h m (low st.nx) v x → (y = .any ∨ fzc st.h st'.nx n x = some y) → RV w (Fz S st.h m st'.nx) st'.h m (low st'.nx) v y := fun hv hy => by
    rcases hy with rfl | hy
    · exact .any _
    · exact fzc_sound H hk hv hy
  refine ⟨by omega, Fz S st.h m st'.nx, m, ⟨e0.os, e0.tape, e0.output, e0.size, fun i hi => by
    have : i < E.nx := hi
    show i < st'.nx
    omega, fun b hb => .inl (e0.sub b hb), hfz, e0.keep, fun i B' hi hB' => ?_, fun i B' hB' => ?_⟩, ?_, by omega, fun t ht => ?_, hd⟩
  · obtain ⟨_, B, hB, e1, e2, e3, e4⟩ := hk.shape hB'
    obtain ⟨B0, hB0, hv0, hs0⟩ := e0.ids i B hi hB
    exact ⟨B0, hB0, by omega, fun he => ⟨(hs0 (by omega)).1, by rw [← e2]; exact (hs0 (by omega)).2.1, by rw [← e4]; exact (hs0 (by omega)).2.2⟩⟩
  · obtain ⟨_, B, hB, _⟩ := hk.shape hB'
    exact e0.img i B hB
  · refine ⟨fun b hb => ⟨?_, fun i B' hB' he => ?_⟩, fun i j B B' h1 h2 he => ?_, fun i B hB => (hk.shape hB).1, fun i B' hB' => ?_⟩
    · rcases hb with hb | ⟨i, B, hB, _, rfl⟩
      · exact (H.st b hb).1
      · obtain ⟨C, c1, _⟩ := H.blk i B hB
        exact (Array.getElem?_eq_some_iff.1 c1).1
    · obtain ⟨hi, B, hB, _⟩ := hk.shape hB'
      rcases hb with hb | ⟨j, Bj, hBj, hj, rfl⟩
      · exact (H.st b hb).2 i B hB he
      · have := H.inj i j B Bj hB hBj he
        omega
    · obtain ⟨_, B1, hB1, _⟩ := hk.shape h1
      obtain ⟨_, B2, hB2, _⟩ := hk.shape h2
      exact H.inj i j B1 B2 hB1 hB2 he
    · obtain ⟨_, B, es, hB, hm, rfl⟩ := hk i B' hB'
      obtain ⟨C, c1, c2, c3, c4, c5, c6, c7⟩ := H.blk i B hB
      obtain ⟨l1, l2⟩ := mapO_mem hm
      have hfl := mapO_flatten hm
      obtain ⟨f1, f2⟩ := mapO_mem hfl
      refine ⟨C, c1, c2, by simp only [← l1]; exact c3, c4, fun e he => ?_, c6, fun j a b => ?_⟩
      · obtain ⟨q, hq, rfl⟩ := List.mem_iff_getElem.1 he
        have := (mapO_mem (l2 q (by have : q < es.length := hq; omega) hq)).1
        rw [← this]
        exact c5 _ (List.getElem_mem _)
      · exact hcell (c7 j a (by have : j < es.flatten.length := b; omega)) (.inr (f2 j (by have : j < es.flatten.length := b; omega) b))
  · exact hcell (hf t (by omega)) (hfr t ht (by omega))

/-! ### Weaker states -/
/-- The second state says no more than the first. -/
def Wk (st st' : St) : Prop := ∀ (E : Ent) (a : Act) (w : World), Rel E st a w → Rel E st' a w
theorem Wk.rfl' {st : St} : Wk st st := fun _ _ _ h => h
theorem Wk.trans {a b c : St} (h : Wk a b) (h' : Wk b c) : Wk a c := fun E x w hr => h' E x w (h E x w hr)

/-- Slots as they are, frozen, or forgotten. -/
inductive FrL (h : Hp) (k n : Nat) : List V → List V → Prop
  | nil : FrL h k n [] []
  | any {v : V} {l l' : List V} (hl : FrL h k n l l') : FrL h k n (v :: l) (.any :: l')
  | fz {v v' : V} {l l' : List V} (hv : fzc h k n v = some v') (hl : FrL h k n l l') : FrL h k n (v :: l) (v' :: l')
theorem FrL.len {h : Hp} {k n : Nat} {l l' : List V} (hl : FrL h k n l l') : l.length = l'.length := by
  induction hl <;> simp [*]
theorem FrL.at {h : Hp} {k n : Nat} {l l' : List V} (hl : FrL h k n l l') : ∀ (t : Nat) (h1 : t < l'.length) (h2 : t < l.length), l'[t] = .any ∨ fzc h k n l[t] = some l'[t] := by
  induction hl with
  | nil => intro t h1; simp at h1
  | any hl ih => intro t h1 h2; cases t with
    | zero => exact .inl rfl
    | succ t => simpa using ih t (by simpa using h1) (by simpa using h2)
  | fz hv hl ih => intro t h1 h2; cases t with
    | zero => exact .inr hv
    | succ t => simpa using ih t (by simpa using h1) (by simpa using h2)

/-- Blocks as they are, frozen, or forgotten. -/
inductive HpL (h : Hp) (k n : Nat) : Nat → List (Option Blk) → List (Option Blk) → Prop
  | nil (c : Nat) (l : List (Option Blk)) : HpL h k n c l []
  | none {c : Nat} {b : Option Blk} {l l' : List (Option Blk)} (hl : HpL h k n c l l') : HpL h k n (c + 1) (b :: l) (none :: l')
  | some {c : Nat} {T s v : Nat} {es es' : List (List V)} {l l' : List (Option Blk)} (he : mapO (mapO (fzc h k n)) es = some es') (hl : HpL h k n c l l') : HpL h k n (c + 1) (some ⟨T, s, v, es⟩ :: l) (some ⟨T, s, v, es'⟩ :: l')
theorem HpL.kept {h : Hp} {k n : Nat} : ∀ {c : Nat} {l l' : List (Option Blk)}, HpL h k n c l l' → ∀ i B', hL l' i = Option.some B' → i < c ∧ ∃ B es, hL l i = Option.some B ∧ mapO (mapO (fzc h k n)) B.es = Option.some es ∧ B' = { B with es := es } := by
  intro c l l' hl
  induction hl with
  | nil c l => intro i B' hB; simp [hL] at hB
  | none hl ih =>
    intro i B' hB
    cases i with
    | zero => simp [hL] at hB
    | succ i =>
      obtain ⟨a, b⟩ := ih i B' (by simpa [hL] using hB)
      exact ⟨by omega, by simpa [hL] using b⟩
  | some he hl ih =>
    intro i B' hB
    cases i with
    | zero =>
      simp [hL] at hB
      subst hB
      exact ⟨by omega, _, _, rfl, he, rfl⟩
    | succ i =>
      obtain ⟨a, b⟩ := ih i B' (by simpa [hL] using hB)
      exact ⟨by omega, by simpa [hL] using b⟩

/-- From a state written out to one that says less. -/
theorem Wk.of {fr fr' : List V} {hl hl' : List (Option Blk)} {nx k lo : Nat} (n : Nat) (hk : lo ≤ k) (hf : FrL (hL hl) k n fr fr') (hh : HpL (hL hl) k n k hl hl') : Wk ⟨fr, hL hl, nx, lo⟩ ⟨fr', hL hl', k, lo⟩ := fun E a w hr =>
  hr.freeze (st' := ⟨fr', hL hl', k, lo⟩) n rfl hk hf.len.symm hf.at fun i B' hB' => hh.kept i B' hB'

theorem Safe.wk {c : Code} {st st' : St} {Q : Ex → St → Prop} (hw : Wk st st') (hs : Safe P c st' Q) : Safe P c st Q := hs.weaken hw

/-- A loop: at each round's head stands a state of the family. -/
theorem Safe.loopW {c : Code} {Q : Ex → St → Prop} {st : St} (J : Nat → St → Prop) {n : Nat} {st0 : St} (h0 : J n st0) (hw : Wk st st0)
    (hround : ∀ n s, J n s → Safe P c s (Ex.andThen (fun s' => ∃ k s0, k < n ∧ J k s0 ∧ Wk s' s0) Q)) : Safe P (.loop c) st Q :=
  Safe.wk hw (Safe.loop (fun n s => ∃ s0, J n s0 ∧ Wk s s0) ⟨st0, h0, Wk.rfl'⟩ fun n s ⟨s0, hJ, hws⟩ => Safe.wk hws ((hround n s0 hJ).mono fun e s h => by
    cases e with
    | normal => obtain ⟨k, s0, hk, hJ, hw⟩ := h; exact ⟨k, hk, s0, hJ, hw⟩
    | exit i => exact h
    | ret => exact h))
/-- Code after which a state of the family stands, whatever came before. -/
theorem Safe.cut {c d : Code} {Q : Ex → St → Prop} {st : St} (J : St → Prop) (h1 : Safe P c st (Ex.andThen (fun s => ∃ s0, J s0 ∧ Wk s s0) Q)) (h2 : ∀ s, J s → Safe P d s Q) : Safe P (.seq c d) st Q :=
  .seq (h1.mono fun e s h => by
    cases e with
    | normal => obtain ⟨s0, hJ, hw⟩ := h; exact Safe.wk hw (h2 s0 hJ)
    | exit i => exact h
    | ret => exact h)
end
end Go.Proofs.YtepahgbgijmipaaEv
