/- A logic over abstract states for walks, twenty-ninth part: a nil list read as an empty list. -/
import Derived.Test.YtepahgbgijmipaaEv28
namespace Go.Proofs.YtepahgbgijmipaaEv
open Go Go.RowKit
/-- Whatever is told by the one is told by the other. -/
def DLe (x y : D) : Prop := ∀ (w : World) (S : Nat → Prop) (v : Value), RD w S v x → RD w S v y
theorem DLe.rfl' (x : D) : DLe x x := fun _ _ _ h => h
theorem DLe.nils (s : Nat) : DLe .nils (.ls s []) := fun w S v h => by cases h; exact .ls0 s none 0
inductive DLs : List D → List D → Prop
  | nil : DLs [] []
  | cons {x y : D} {xs ys : List D} (h : DLe x y) (t : DLs xs ys) : DLs (x :: xs) (y :: ys)
theorem DLs.at {xs ys : List D} (h : DLs xs ys) : xs.length = ys.length ∧ ∀ (j : Nat) (h1 : j < xs.length) (h2 : j < ys.length), DLe xs[j] ys[j] := by
  induction h with
  | nil => exact ⟨rfl, fun j h1 => absurd h1 (by simp)⟩
  | cons h t ih =>
    refine ⟨by simp [ih.1], fun j h1 h2 => ?_⟩
    cases j with
    | zero => exact h
    | succ j => exact ih.2 j (by simpa using h1) (by simpa using h2)
theorem FnSpec.le {P : Program} {f : FuncId} {args : List V} {bx : List Blk} {R R' : V → List Blk → Prop} (hs : FnSpec P f args bx R)
    (hR : ∀ r b, R r b → ∃ cs cs' : List D, r = .agg (cs.map .d) ∧ DLs cs cs' ∧ R' (.agg (cs'.map .d)) b) : FnSpec P f args bx R' := fun w S m vs H ha =>
  (hs w S m vs H ha).mono fun _ w' ⟨v, r, h', nx', S', m', h1, ⟨g1, g2, bx', g3, g4, g5, g6⟩, h6, h7, h8⟩ => by
    obtain ⟨cs, cs', k1, k2, k3⟩ := hR r bx' g6
    obtain ⟨k4, k5⟩ := k2.at
    subst k1
    refine ⟨v, .agg (cs'.map .d), h', nx', S', m', h1, ⟨g1, .one _ (.agg cs'), bx', g3, g4, g5, k3⟩, h6, h7, ?_⟩
    cases h8 with
    | agg vs _ hl hr =>
      simp only [List.length_map] at hl
      refine .agg vs _ (by simp only [List.length_map]; omega) fun j h1 h2 => ?_
      have h3 := hr j h1 (by simp only [List.length_map]; omega)
      simp only [List.getElem_map] at h3 ⊢
      generalize vs[j] = vv at h3 ⊢
      cases h3 with
      | d _ _ hd => exact .d _ _ (k5 j (by omega) (by omega) _ _ _ hd)
theorem map_some_inj {α : Type} {b l : List α} (h : b.map some = l.map some) : b = l := by
  induction b generalizing l with
  | nil => cases l with
    | nil => rfl
    | cons _ _ => simp at h
  | cons x b ih => cases l with
    | nil => simp at h
    | cons y l =>
      simp only [List.map_cons, List.cons.injEq, Option.some.injEq] at h
      rw [h.1, ih h.2]
end Go.Proofs.YtepahgbgijmipaaEv
