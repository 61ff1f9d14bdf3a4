/- A logic over abstract states for walks, nineteenth part: calls, wholly computed; leaves. -/
import Derived.Test.YtepahgbgijmipaaEv18
namespace Go.Proofs.YtepahgbgijmipaaEv
open Go Go.RowKit

/-- The blocks that values lead to, each once, in order. -/
def idAdd (acc : List Nat) (i : Nat) : List Nat := match idxN acc i with
  | some _ => acc
  | none => acc ++ [i]
def idsOf : List Nat → List V → List Nat
  | acc, [] => acc
  | acc, .ptr id _ _ _ :: r => idsOf (idAdd acc id) r
  | acc, .sl id _ _ _ :: r => idsOf (idAdd acc id) r
  | acc, .fn _ [] :: r => idsOf acc r
  | acc, .fn _ [.ptr id _ _ _] :: r => idsOf (idAdd acc id) r
  | acc, .fn _ [.ptr id _ _ _, .ptr id' _ _ _] :: r => idsOf (idAdd (idAdd acc id) id') r
  | acc, .fn _ [.ptr id _ _ _, .ptr id' _ _ _, .ptr id'' _ _ _] :: r => idsOf (idAdd (idAdd (idAdd acc id) id') id'') r
  | acc, _ :: r => idsOf acc r

def pureB1 (B : Blk) : Bool := B.es.all fun e => e.all isD
theorem pureB1_sound {B : Blk} (h : pureB1 B = true) : PureB B := fun e he v hv => by
  have h1 := List.all_eq_true.1 h e he
  have h2 := List.all_eq_true.1 h1 v hv
  cases v <;> first | exact ⟨_, rfl⟩ | (simp [isD] at h2)
theorem pure_nil : ∀ B ∈ ([] : List Blk), PureB B := fun _ h => by cases h
theorem pure_cons {B : Blk} {l : List Blk} (h : PureB B) (hl : ∀ B ∈ l, PureB B) : ∀ A ∈ B :: l, PureB A := fun A hA => by
  rcases List.mem_cons.1 hA with rfl | h'
  · exact h
  · exact hl A h'

section
variable {P : Program}

theorem SafeL.callA {ops : Array Oper} {dst : Option Tmp} {ty : TypeId} {pos : String} {after : Array Edge} {l : List Oper} {K : St → Prop} {fr fr' : List V} {hl hl' : List (Option Blk)} {nx lo : Nat} {fo : Operand} {args : Array Operand} {ats : Array TypeId}
    {g : FuncId} {caps vs : List V} {ids : List Nat} {bx bx' : List Blk} {args' : List V} {r : V} (hf : calleeOf (evO fr fo) = some (g, caps)) (he : enters P g = true) (hv : args.toList.map (evO fr) ++ caps = vs) (hi : idsOf [] vs = ids) (hargs : argF.argsF ids vs = some args') (hn : ids.Nodup) (hbx : mapO (hL hl) ids = some bx) (hp : ∀ B ∈ bx, PureB B)
    (hs : FnSpec P g args' bx fun r' b => r' = r ∧ b = bx') (hfr : put fr dst r = fr') (hhl : backL hl ids bx' = hl') (hK : SafeL P ops l ⟨fr', hL hl', nx, lo⟩ K) : SafeL P ops (⟨dst, .call { callee := .value fo, args := args, argTypes := ats }, ty, pos, after, none⟩ :: l) ⟨fr, hL hl, nx, lo⟩ K := by
  subst hv
  exact SafeL.callB hf he ids hargs hn hbx hp hs hfr hhl hK
/-- A gate: is the next operation a call of a function of the program? -/
theorem SafeL.cgate {ops : Array Oper} {dst : Option Tmp} {ty : TypeId} {pos : String} {after : Array Edge} {l : List Oper} {K : St → Prop} {fr : List V} {h : Hp} {nx lo : Nat} {fo : Operand} {args : Array Operand} {ats : Array TypeId}
    (hh : SafeL P ops (⟨dst, .call { callee := .value fo, args := args, argTypes := ats }, ty, pos, after, none⟩ :: l) ⟨fr, h, nx, lo⟩ K) : SafeL P ops (⟨dst, .call { callee := .value fo, args := args, argTypes := ats }, ty, pos, after, none⟩ :: l) ⟨fr, h, nx, lo⟩ K := hh
end

/-- A loop, one round at a time: n rounds at most. -/
def Un (P : Program) (c : Code) (Q : Ex → St → Prop) : Nat → St → Prop
  | 0, _ => False
  | n + 1, s => Safe P c s (Ex.andThen (Un P c Q n) Q)
theorem Un.step {P : Program} {c : Code} {Q : Ex → St → Prop} {n : Nat} {s : St} (h : Safe P c s (Ex.andThen (Un P c Q n) Q)) : Un P c Q (n + 1) s := h
theorem Safe.unroll {P : Program} {c : Code} {Q : Ex → St → Prop} {st : St} (n : Nat) (h : Un P c Q n st) : Safe P (.loop c) st Q :=
  Safe.loop (Un P c Q) h fun n s hs => by
    cases n with
    | zero => exact hs.elim
    | succ n =>
      refine Safe.mono hs fun e s h => ?_
      cases e with
      | normal => exact ⟨n, Nat.lt_succ_self n, h⟩
      | exit i => exact h
      | ret => exact h
theorem leaf_d {p q : Prop} {dp : Decidable p} {dq : Decidable q} (h : p ↔ q) : V.d (.bool (decide p)) = V.d (.bool (decide q)) := by
  by_cases hp : p
  · simp [hp, h.1 hp]
  · have : ¬ q := fun hq => hp (h.2 hq)
    simp [hp, this]
theorem leaf_t {q : Prop} {dq : Decidable q} (h : q) : V.d (.bool true) = V.d (.bool (decide q)) := by simp [h]
theorem leaf_t' {q : Prop} {dq : Decidable q} (h : q) : V.d (.bool (decide q)) = V.d (.bool true) := by simp [h]
theorem leaf_f {q : Prop} {dq : Decidable q} (h : ¬ q) : V.d (.bool false) = V.d (.bool (decide q)) := by simp [h]
attribute [go_sem] evBuiltin evAppend evCopy evSlice evMake evBuildSlice fillE srcV bnd evEq eqFlat eqD fitsD dsOf evStr
attribute [go_sem] calleeOf idsOf idAdd idxN argF argF.argsF isD backL List.nil_append List.cons_append List.append_nil
theorem fzB_mk (h : Hp) (k n T s v : Nat) (es : List (List V)) : fzB h k n ⟨T, s, v, es⟩ = (mapO (mapO (fzD h k n)) es).map fun es => ⟨T, s, v, es.map fun e => e.map .d⟩ := rfl
attribute [go_sem] resV resVs resV1 fzV fz1 fzD mapO fzL fzB_mk evFieldAddr evLoad evStore evOff live rdBlk hL evBox cellsV V.one refs evIndexAddr evField evIndex evBuild fillV ofCell ofVal evLen evConvert
  List.drop_succ_cons List.drop_zero List.take_succ_cons List.take_zero List.all_cons List.all_nil Bool.and_true Bool.and_self Nat.reduceAdd Nat.reduceLeDiff Nat.reduceSub beq_self_eq_true Nat.reduceEqDiff Nat.reduceBEq
  wrap_i64 evInt_rem evInt_quo List.toList_toArray
end Go.Proofs.YtepahgbgijmipaaEv
