/- A logic over abstract states for walks, twentieth part: loops whose heads are told by what they turn. -/
import Derived.Test.YtepahgbgijmipaaEv19
namespace Go.Proofs.YtepahgbgijmipaaEv
open Go Go.RowKit

def setMany : List V → List (Nat × V) → List V
  | fr, [] => fr
  | fr, p :: r => setMany (fr.set p.1 p.2) r
def forget : List V → List Nat → List V
  | fr, [] => fr
  | fr, t :: r => forget (fr.set t .any) r

/-- A loop: fo are the slots that its rounds write, up what stands in them at a round's head, uh the blocks that they turn. -/
theorem Safe.loopF {P : Program} {c : Code} {Q : Ex → St → Prop} {fr : List V} {hl : List (Option Blk)} {nx lo : Nat} {X : Type} (x0 : X) (μ : X → Nat) (Inv : X → Prop) (fo : List Nat) (up : X → List (Nat × V)) (uh : X → List (Nat × Blk))
    (h0 : Inv x0) {fr0 : List V} {hl0 : List (Option Blk)} (e1 : setMany (forget fr fo) (up x0) = fr0) (e2 : updsL hl (uh x0) = hl0) (hw : Wk ⟨fr, hL hl, nx, lo⟩ ⟨fr0, hL hl0, nx, lo⟩)
    (hround : ∀ x, Inv x → ∃ fr' hl', setMany (forget fr fo) (up x) = fr' ∧ updsL hl (uh x) = hl' ∧ Safe P c ⟨fr', hL hl', nx, lo⟩
      (Ex.andThen (fun s' => ∃ x', μ x' < μ x ∧ Inv x' ∧ ∃ fr'' hl'', setMany (forget fr fo) (up x') = fr'' ∧ updsL hl (uh x') = hl'' ∧ Wk s' ⟨fr'', hL hl'', nx, lo⟩) Q)) : Safe P (.loop c) ⟨fr, hL hl, nx, lo⟩ Q := by
  subst e1; subst e2
  refine Safe.loopW (fun n s => ∃ x, n = μ x ∧ Inv x ∧ s = ⟨setMany (forget fr fo) (up x), hL (updsL hl (uh x)), nx, lo⟩) (n := μ x0) ⟨x0, rfl, h0, rfl⟩ hw ?_
  rintro n _ ⟨x, rfl, hx, rfl⟩
  obtain ⟨fr', hl', rfl, rfl, hs⟩ := hround x hx
  exact hs.mono fun e s h => by
    cases e with
    | normal =>
      obtain ⟨x', h1, h2, fr'', hl'', rfl, rfl, h3⟩ := h
      exact ⟨_, _, h1, ⟨x', rfl, h2, rfl⟩, h3⟩
    | exit i => exact h
    | ret => exact h

/-- The last of a branch's ends: a state that says less. -/
theorem wkEnd {fr fr' : List V} {hl hl' : List (Option Blk)} {nx k lo : Nat} (n : Nat) (hk : lo ≤ k) (hf : FrL (hL hl) k n fr fr') (hh : HpL (hL hl) k n k hl hl') : Wk ⟨fr, hL hl, nx, lo⟩ ⟨fr', hL hl', k, lo⟩ := Wk.of n hk hf hh
attribute [go_sem] setMany forget fzc fzc.fzcs
theorem fzD_map (h : Hp) (k n : Nat) (ds : List D) : mapO (fzD h k n) (ds.map V.d) = some ds := by
  induction ds with
  | nil => rfl
  | cons x l ih => simp only [List.map_cons, mapO, ih, fzD]
theorem isD_map (ds : List D) : (ds.map V.d).all isD = true := by
  induction ds with
  | nil => rfl
  | cons x l ih => simp only [List.map_cons, List.all_cons, ih, isD, Bool.and_self]
theorem fzc_map (h : Hp) (k n : Nat) (ds : List D) : mapO (fzc h k n) (ds.map V.d) = some (ds.map V.d) := by
  induction ds with
  | nil => rfl
  | cons x l ih => simp only [List.map_cons, mapO, ih, fzc]
attribute [go_sem] fzD_map isD_map fzc_map
end Go.Proofs.YtepahgbgijmipaaEv
