/- A logic over abstract states for walks, twenty-seventh part: loops whose heaps are told by what they turn. -/
import Derived.Test.YtepahgbgijmipaaEv26
namespace Go.Proofs.YtepahgbgijmipaaEv
open Go Go.RowKit
/-- A cell of the first element of a block turned. -/
def setC : List (Option Blk) → Nat → Nat → V → List (Option Blk)
  | some ⟨T, s, ver, e :: es⟩ :: l, 0, o, v => some ⟨T, s, ver, e.set o v :: es⟩ :: l
  | x :: l, i + 1, o, v => x :: setC l i o v
  | l, _, _, _ => l
/-- A loop: fo are the slots that its rounds write, up what stands in them at a round's head, uh what is turned of the heap. -/
theorem Safe.loopH {P : Program} {c : Code} {Q : Ex → St → Prop} {fr : List V} {hl : List (Option Blk)} {nx lo : Nat} {X : Type} (x0 : X) (μ : X → Nat) (Inv : X → Prop) (fo : List Nat) (up : X → List (Nat × V)) (uh : X → List (Option Blk) → List (Option Blk)) (nx' : Nat)
    (h0 : Inv x0) {fr0 : List V} {hl0 : List (Option Blk)} (e1 : setMany (forget fr fo) (up x0) = fr0) (e2 : uh x0 hl = hl0) (hw : Wk ⟨fr, hL hl, nx, lo⟩ ⟨fr0, hL hl0, nx', lo⟩)
    (hround : ∀ x, Inv x → ∃ fr' hl', setMany (forget fr fo) (up x) = fr' ∧ uh x hl = hl' ∧ Safe P c ⟨fr', hL hl', nx', lo⟩
      (Ex.andThen (fun s' => ∃ x', μ x' < μ x ∧ Inv x' ∧ ∃ fr'' hl'', setMany (forget fr fo) (up x') = fr'' ∧ uh x' hl = hl'' ∧ Wk s' ⟨fr'', hL hl'', nx', lo⟩) Q)) : Safe P (.loop c) ⟨fr, hL hl, nx, lo⟩ Q := by
  refine Safe.loopW (fun k s => ∃ x, Inv x ∧ μ x = k ∧ s = ⟨setMany (forget fr fo) (up x), hL (uh x hl), nx', lo⟩) (n := μ x0) ⟨x0, h0, rfl, rfl⟩ (by rw [e1, e2]; exact hw) fun k s ⟨x, hx, hk, hs⟩ => ?_
  obtain ⟨fr', hl', g1, g2, g3⟩ := hround x hx
  subst hs
  rw [g1, g2]
  refine g3.mono fun e s' h => ?_
  cases e with
  | normal =>
    obtain ⟨x', k1, k2, fr'', hl'', k3, k4, k5⟩ := h
    exact ⟨μ x', _, by omega, ⟨x', k2, rfl, rfl⟩, by rw [k3, k4]; exact k5⟩
  | exit i => exact h
  | ret => exact h
theorem hL_none (l : List (Option Blk)) : hL (l ++ [none]) = hL l := by
  funext i
  simp only [hL, List.getD_eq_getElem?_getD, List.getElem?_append]
  split
  · rfl
  · rename_i h
    rw [List.getElem?_eq_none (by omega : l.length ≤ i)]
    cases i - l.length <;> rfl
attribute [go_sem] setC
/-- A call in a region that draws, of which something is told. -/
theorem LexK.cE {P : Program} {ops : Array Oper} {dst : Option Tmp} {ty : TypeId} {pos : String} {after : Array Edge} {l : List Oper} {fr : List V} {hl : List (Option Blk)} {base k : Nat} {KL : List Entry → List V → List (Option Blk) → Prop} {fo : Operand} {args : Array Operand} {ats : Array TypeId} {g : FuncId} {caps vs : List V} {ids : List Nat} {bx : List Blk} {args' : List V}
    {R : V → List Blk → Prop} (hf : calleeOf (evO fr fo) = some (g, caps)) (hv : args.toList.map (evO fr) ++ caps = vs) (hi : idsOf [] vs = ids) (hargs : argF.argsF ids vs = some args') (hbx : mapO (hL hl) ids = some bx) (he : enters P g = true) (hn : ids.Nodup) (hp : ∀ B ∈ bx, PureB B)
    (hs : DetSpec P g args' bx R) (hK : ∀ r bx', R r bx' → ∃ fr1 hl1 k1 e1, put fr dst r = fr1 ∧ updsL hl (ids.zip bx').reverse = hl1 ∧ k + 1 = k1 ∧ (r, ids, (ids.zip bx').reverse) = e1 ∧ LexK P ops base l k1 fr1 hl1 fun L => KL (e1 :: L)) :
    LexK P ops base (⟨dst, .call { callee := .value fo, args := args, argTypes := ats }, ty, pos, after, none⟩ :: l) k fr hl KL := by
  refine LexK.cD hf hv hi hargs hbx he hn hp hs fun r bx' hR => ?_
  obtain ⟨fr1, hl1, k1, e1, h1, h2, h3, h4, h5⟩ := hK r bx' hR
  rw [h1, h2, h3, h4]
  exact h5
end Go.Proofs.YtepahgbgijmipaaEv
