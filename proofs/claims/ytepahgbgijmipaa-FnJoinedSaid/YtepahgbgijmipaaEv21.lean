/- A logic over abstract states for walks, twenty-first part: regions that draw their order, one operation at a time. -/
import Derived.Test.YtepahgbgijmipaaEv20
namespace Go.Proofs.YtepahgbgijmipaaEv
open Go Go.RowKit

/-- The region's operations in the text's order, and what is to hold of the log and the state. -/
def LexK (P : Program) (ops : Array Oper) (base : Nat) (l : List Oper) (k : Nat) (fr : List V) (hl : List (Option Blk)) (K : List Entry → List V → List (Option Blk) → Prop) : Prop :=
  ∃ L fr' hl', LexRun P ops base l k fr (hL hl) L fr' (hL hl') ∧ K L fr' hl'

section
variable {P : Program}

theorem Safe.regionK {i : Nat} {l : List Oper} {fr : List V} {hl : List (Option Blk)} {nx lo : Nat} {Q : Ex → St → Prop} (hm : P.follows .mixedOrders = true) (hB : Region.lexB .any l.toArray = true)
    (h : LexK P l.toArray nx l 0 fr hl fun L fr' hl' => fpB l.toArray (L.map foot) = true ∧ ∃ nx', nxtD nx L = nx' ∧ Q .normal ⟨fr', hL hl', nx', lo⟩) : Safe P (.region i (List.toArray l) true) ⟨fr, hL hl, nx, lo⟩ Q := by
  obtain ⟨L, fr', hl', h1, h2, nx', h3, h4⟩ := h
  subst h3
  exact Safe.regionD hm hB h1 h2 h4

variable {ops : Array Oper} {base k : Nat} {dst : Option Tmp} {op : Op} {ty : TypeId} {pos : String} {after : Array Edge} {l : List Oper} {fr fr1 fr2 : List V} {hl hl1 : List (Option Blk)} {K : List Entry → List V → List (Option Blk) → Prop}

theorem LexK.nil (h : K [] fr hl) : LexK P ops base [] k fr hl K := ⟨[], fr, hl, .nil _ _ _, h⟩

def step1D (P : Program) (fr : List V) (hl : List (Option Blk)) (id : Nat) (dst : Option Tmp) (op : Op) : Option (Entry × List V × List (Option Blk)) :=
  match evOp P (evO fr) (hL hl) id op with
  | some (v, rd, wr) => some ((v, rd, wr), put fr dst v, updsL hl wr)
  | none => none

theorem LexK.cons {e : Entry} (hst : (wantedA ops fr ⟨dst, op, ty, pos, after, none⟩ = some true ∧ AStep P (base + k) ⟨dst, op, ty, pos, after, none⟩ fr (hL hl) e.1 e.2.1 e.2.2)) (hf : put fr dst e.1 = fr1) (hh : updsL hl e.2.2 = hl1)
    (h : LexK P ops base l (k + 1) fr1 hl1 fun L => K (e :: L)) : LexK P ops base (⟨dst, op, ty, pos, after, none⟩ :: l) k fr hl K := by
  subst hf; subst hh
  obtain ⟨L, fr', hl', h1, h2⟩ := h
  refine ⟨e :: L, fr', hl', .cons (.inl hst) ?_, h2⟩
  rw [hL_upds]
  exact h1

theorem LexK.step {id k1 : Nat} {e : Entry} (hid : base + k = id) (he : step1D P fr hl id dst op = some (e, fr1, hl1)) (hk : k + 1 = k1) (h : LexK P ops base l k1 fr1 hl1 fun L => K (e :: L)) : LexK P ops base (⟨dst, op, ty, pos, after, none⟩ :: l) k fr hl K := by
  subst hid; subst hk
  unfold step1D at he
  split at he
  · rename_i v rd wr hev
    cases he
    exact LexK.cons (e := (v, rd, wr)) ⟨rfl, .op hev⟩ rfl rfl h
  · cases he

/-! ### Guards -/
theorem wantedA_b {j : Nat} {want b : Bool} {t : Tmp} (hj : (ops[j]?).bind (·.dst) = some t) (hb : fr[t]? = some (.d (.bool b))) : wantedA ops fr ⟨dst, op, ty, pos, after, some (j, want)⟩ = some (b == want) := by
  simp only [wantedA, hj, hb]
theorem LexK.yes {j : Nat} {want : Bool} (hw : wantedA ops fr ⟨dst, op, ty, pos, after, some (j, want)⟩ = some true) (h : LexK P ops base (⟨dst, op, ty, pos, after, none⟩ :: l) k fr hl K) : LexK P ops base (⟨dst, op, ty, pos, after, some (j, want)⟩ :: l) k fr hl K := by
  obtain ⟨L, fr', hl', h1, h2⟩ := h
  cases h1 with
  | cons hst hr =>
    rename_i e L
    obtain ⟨v, rd, wr⟩ := e
    refine ⟨(v, rd, wr) :: L, fr', hl', .cons (.inl ⟨hw, ?_⟩) hr, h2⟩
    simp only at hst ⊢
    rcases hst with ⟨_, h3⟩ | ⟨h3, _⟩
    · cases h3 with
      | op he => exact .op he
      | call ho hf hen hn hl hb hp ha hs => exact AStep.call (o := ⟨dst, op, ty, pos, after, some (j, want)⟩) ho hf hen hn hl hb hp ha hs
      | quiet ho hf hen hn hl hb hp ha hs => exact AStep.quiet (o := ⟨dst, op, ty, pos, after, some (j, want)⟩) ho hf hen hn hl hb hp ha hs
      | read ho hf hen ha hv hs => exact AStep.read (o := ⟨dst, op, ty, pos, after, some (j, want)⟩) ho hf hen ha hv hs
    · simp [wantedA] at h3
theorem LexK.no {j : Nat} {want : Bool} (hw : wantedA ops fr ⟨dst, op, ty, pos, after, some (j, want)⟩ = some false) {k1 : Nat} (hk : k + 1 = k1) (hf : put fr dst (.tup []) = fr1) (h : LexK P ops base l k1 fr1 hl fun L => K ((.tup [], [], []) :: L)) : LexK P ops base (⟨dst, op, ty, pos, after, some (j, want)⟩ :: l) k fr hl K := by
  subst hf; subst hk
  obtain ⟨L, fr', hl', h1, h2⟩ := h
  exact ⟨_ :: L, fr', hl', .cons (e := (.tup [], [], [])) (.inr ⟨hw, rfl⟩) h1, h2⟩

theorem LexK.gYes {j : Nat} {want : Bool} {t : Tmp} (hj : (ops[j]?).bind (·.dst) = some t) (hb : fr[t]? = some (.d (.bool want))) (h : LexK P ops base (⟨dst, op, ty, pos, after, none⟩ :: l) k fr hl K) : LexK P ops base (⟨dst, op, ty, pos, after, some (j, want)⟩ :: l) k fr hl K :=
  LexK.yes (by rw [wantedA_b hj hb]; simp) h
theorem LexK.gNo {j : Nat} {want b : Bool} {t : Tmp} {k1 : Nat} (hj : (ops[j]?).bind (·.dst) = some t) (hb : fr[t]? = some (.d (.bool b))) (hw : b = !want) (hk : k + 1 = k1) (hf : put fr dst (.tup []) = fr1) (h : LexK P ops base l k1 fr1 hl fun L => K ((.tup [], [], []) :: L)) :
    LexK P ops base (⟨dst, op, ty, pos, after, some (j, want)⟩ :: l) k fr hl K :=
  LexK.no (by rw [wantedA_b hj hb, hw]; cases want <;> rfl) hk hf h
theorem LexK.gUn {j : Nat} {want : Bool} {t : Tmp} {k1 : Nat} (hj : (ops[j]?).bind (·.dst) = some t) (hb : fr[t]? = some (.tup [])) (hk : k + 1 = k1) (hf : put fr dst (.tup []) = fr1) (h : LexK P ops base l k1 fr1 hl fun L => K ((.tup [], [], []) :: L)) :
    LexK P ops base (⟨dst, op, ty, pos, after, some (j, want)⟩ :: l) k fr hl K :=
  LexK.no (by simp only [wantedA, hj, hb]) hk hf h
theorem LexK.gCase {j : Nat} {want b : Bool} {t : Tmp} {k1 : Nat} (hj : (ops[j]?).bind (·.dst) = some t) (hb : fr[t]? = some (.d (.bool b))) (h1 : fr.set t (.d (.bool want)) = fr1) (hk : k + 1 = k1) (h2 : put (fr.set t (.d (.bool (!want)))) dst (.tup []) = fr2)
    (hyes : b = want → LexK P ops base (⟨dst, op, ty, pos, after, none⟩ :: l) k fr1 hl K) (hno : b = (!want) → LexK P ops base l k1 fr2 hl fun L => K ((.tup [], [], []) :: L)) : LexK P ops base (⟨dst, op, ty, pos, after, some (j, want)⟩ :: l) k fr hl K := by
  subst h1; subst h2
  by_cases hbw : b = want
  · subst hbw
    have := hyes rfl
    rw [set_same hb] at this
    exact LexK.gYes hj hb this
  · have hbw' : b = (!want) := by cases b <;> cases want <;> simp_all
    have := hno hbw'
    subst hbw'
    rw [set_same hb] at this
    exact LexK.gNo hj hb rfl hk rfl this
theorem LexK.gT {j : Nat} {p : Prop} {dp : Decidable p} {t : Tmp} {k1 : Nat} (hj : (ops[j]?).bind (·.dst) = some t) (hb : fr[t]? = some (.d (.bool (decide p)))) (h1 : fr.set t (.d (.bool true)) = fr1) (hk : k + 1 = k1) (h2 : put (fr.set t (.d (.bool false))) dst (.tup []) = fr2)
    (hyes : p → LexK P ops base (⟨dst, op, ty, pos, after, none⟩ :: l) k fr1 hl K) (hno : ¬ p → LexK P ops base l k1 fr2 hl fun L => K ((.tup [], [], []) :: L)) : LexK P ops base (⟨dst, op, ty, pos, after, some (j, true)⟩ :: l) k fr hl K :=
  LexK.gCase hj hb h1 hk h2 (fun h => hyes (of_decide_eq_true h)) fun h => hno (of_decide_eq_false h)
theorem LexK.gF {j : Nat} {p : Prop} {dp : Decidable p} {t : Tmp} {k1 : Nat} (hj : (ops[j]?).bind (·.dst) = some t) (hb : fr[t]? = some (.d (.bool (decide p)))) (h1 : fr.set t (.d (.bool false)) = fr1) (hk : k + 1 = k1) (h2 : put (fr.set t (.d (.bool true))) dst (.tup []) = fr2)
    (hyes : ¬ p → LexK P ops base (⟨dst, op, ty, pos, after, none⟩ :: l) k fr1 hl K) (hno : p → LexK P ops base l k1 fr2 hl fun L => K ((.tup [], [], []) :: L)) : LexK P ops base (⟨dst, op, ty, pos, after, some (j, false)⟩ :: l) k fr hl K :=
  LexK.gCase hj hb h1 hk h2 (fun h => hyes (of_decide_eq_false h)) fun h => hno (of_decide_eq_true h)
theorem LexK.gate {g : Nat × Bool} (h : LexK P ops base (⟨dst, op, ty, pos, after, some g⟩ :: l) k fr hl K) : LexK P ops base (⟨dst, op, ty, pos, after, some g⟩ :: l) k fr hl K := h

/-! ### Calls -/
theorem LexK.cgate {fo : Operand} {args : Array Operand} {ats : Array TypeId} (h : LexK P ops base (⟨dst, .call { callee := .value fo, args := args, argTypes := ats }, ty, pos, after, none⟩ :: l) k fr hl K) : LexK P ops base (⟨dst, .call { callee := .value fo, args := args, argTypes := ats }, ty, pos, after, none⟩ :: l) k fr hl K := h

theorem hbx_of {ids : List Nat} {bx : List Blk} (hbx : mapO (hL hl) ids = some bx) : ids.length = bx.length ∧ ∀ (j id : Nat), ids[j]? = some id → hL hl id = bx[j]? := by
  obtain ⟨l1, l2⟩ := mapO_mem hbx
  refine ⟨l1, fun j id hj => ?_⟩
  obtain ⟨hj1, hj2⟩ := List.getElem?_eq_some_iff.1 hj
  have := l2 j hj1 (by omega)
  rw [hj2] at this
  rw [this, List.getElem?_eq_getElem (by omega)]

/-- A call that leaves its boxes as they are. -/
theorem LexK.callQ {fo : Operand} {args : Array Operand} {ats : Array TypeId} {g : FuncId} {caps vs : List V} {ids : List Nat} {bx : List Blk} {args' : List V} {r : V} {k1 : Nat} (hf : calleeOf (evO fr fo) = some (g, caps)) (he : enters P g = true) (hv : args.toList.map (evO fr) ++ caps = vs) (hi : idsOf [] vs = ids) (hargs : argF.argsF ids vs = some args') (hn : ids.Nodup) (hbx : mapO (hL hl) ids = some bx) (hp : ∀ B ∈ bx, PureB B)
    (hs : FnSpec P g args' bx fun r' b => r' = r ∧ b = bx) (hfr : put fr dst r = fr1) (hk : k + 1 = k1) (h : LexK P ops base l k1 fr1 hl fun L => K ((r, ids, []) :: L)) : LexK P ops base (⟨dst, .call { callee := .value fo, args := args, argTypes := ats }, ty, pos, after, none⟩ :: l) k fr hl K := by
  subst hv; subst hk
  obtain ⟨h1, h2⟩ := hbx_of hbx
  exact LexK.cons (e := (r, ids, [])) ⟨rfl, .quiet rfl hf he hn h1 h2 hp (argsF_sound hargs) hs⟩ hfr rfl h

/-- A call. -/
theorem LexK.callA {fo : Operand} {args : Array Operand} {ats : Array TypeId} {g : FuncId} {caps vs : List V} {ids : List Nat} {bx bx' : List Blk} {args' : List V} {r : V} {k1 : Nat} {wr : List (Nat × Blk)} (hf : calleeOf (evO fr fo) = some (g, caps)) (he : enters P g = true) (hv : args.toList.map (evO fr) ++ caps = vs) (hi : idsOf [] vs = ids) (hargs : argF.argsF ids vs = some args') (hn : ids.Nodup) (hbx : mapO (hL hl) ids = some bx) (hp : ∀ B ∈ bx, PureB B)
    (hs : FnSpec P g args' bx fun r' b => r' = r ∧ b = bx') (hfr : put fr dst r = fr1) (hwr : (ids.zip bx').reverse = wr) (hhl : updsL hl wr = hl1) (hk : k + 1 = k1) (h : LexK P ops base l k1 fr1 hl1 fun L => K ((r, ids, wr) :: L)) : LexK P ops base (⟨dst, .call { callee := .value fo, args := args, argTypes := ats }, ty, pos, after, none⟩ :: l) k fr hl K := by
  subst hv; subst hk; subst hwr
  obtain ⟨h1, h2⟩ := hbx_of hbx
  exact LexK.cons (e := (r, ids, (ids.zip bx').reverse)) ⟨rfl, .call rfl hf he hn h1 h2 hp (argsF_sound hargs) hs⟩ hfr hhl h

theorem fst_mk {α β : Type} (a : α) (b : β) : (a, b).1 = a := rfl
theorem snd_mk {α β : Type} (a : α) (b : β) : (a, b).2 = b := rfl
attribute [go_sem] fst_mk snd_mk List.flatMap_cons List.flatMap_nil Option.getD_some Option.getD_none Bool.true_or Bool.or_true Bool.false_or Bool.or_false Bool.or_self step1D List.zip_cons_cons List.zip_nil_left List.zip_nil_right List.reverse_cons List.reverse_nil nxtD List.zipIdx_cons List.zipIdx_nil Nat.zero_add
end
end Go.Proofs.YtepahgbgijmipaaEv
