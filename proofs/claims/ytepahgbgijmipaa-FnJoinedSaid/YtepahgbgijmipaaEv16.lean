/- A logic over abstract states for walks, sixteenth part: states written out, one step at a time. -/
import Derived.Test.YtepahgbgijmipaaEv15
namespace Go.Proofs.YtepahgbgijmipaaEv
open Go Go.RowKit

/-- A heap written out. -/
def hL (l : List (Option Blk)) : Hp := fun i => l.getD i none
def setL : List (Option Blk) → Nat → Blk → List (Option Blk)
  | [], 0, B => [some B]
  | [], i + 1, B => none :: setL [] i B
  | _ :: l, 0, B => some B :: l
  | x :: l, i + 1, B => x :: setL l i B
def updsL : List (Option Blk) → List (Nat × Blk) → List (Option Blk)
  | l, [] => l
  | l, p :: r => updsL (setL l p.1 p.2) r

theorem hL_set : ∀ (l : List (Option Blk)) (i : Nat) (B : Blk), (hL l).upd i B = hL (setL l i B)
  | [], 0, B => by funext j; cases j <;> simp [Hp.upd, hL, setL]
  | [], i + 1, B => by
    funext j
    have ih := hL_set [] i B
    cases j with
    | zero => simp [Hp.upd, hL, setL]
    | succ j =>
      have := congrFun ih j
      simp only [Hp.upd, hL, List.getD_nil, setL, List.getD_cons_succ, Nat.add_right_cancel_iff] at this ⊢
      exact this
  | x :: l, 0, B => by funext j; cases j <;> simp [Hp.upd, hL, setL]
  | x :: l, i + 1, B => by
    funext j
    have ih := hL_set l i B
    cases j with
    | zero => simp [Hp.upd, hL, setL]
    | succ j =>
      have := congrFun ih j
      simp only [Hp.upd, hL, List.getD_cons_succ, setL, Nat.add_right_cancel_iff] at this ⊢
      exact this
theorem hL_upds : ∀ (wr : List (Nat × Blk)) (l : List (Option Blk)), (hL l).upds wr = hL (updsL l wr)
  | [], l => rfl
  | p :: r, l => by
    have := hL_upds r (setL l p.1 p.2)
    simp only [Hp.upds, List.foldl_cons, updsL, hL_set] at this ⊢
    exact this
theorem ofL_hL (bx : List Blk) : ofL bx = hL (bx.map some) := by
  funext i
  simp only [ofL, hL, List.getD_eq_getElem?_getD, List.getElem?_map]
  cases bx[i]? <;> rfl

section
variable {P : Program} {st : St} {Q : Ex → St → Prop}

/-- One operation on a state written out. -/
def step1 (P : Program) (fr : List V) (hl : List (Option Blk)) (nx : Nat) (dst : Option Tmp) (op : Op) : Option (List V × List (Option Blk) × Nat) :=
  match evOp P (evO fr) (hL hl) nx op with
  | some (v, _, wr) => some (put fr dst v, updsL hl wr, nxt nx wr)
  | none => none

theorem SafeL.step {ops : Array Oper} {dst : Option Tmp} {op : Op} {ty : TypeId} {pos : String} {after : Array Edge} {l : List Oper} {K : St → Prop} {fr fr' : List V} {hl hl' : List (Option Blk)} {nx nx' lo : Nat} (he : step1 P fr hl nx dst op = some (fr', hl', nx'))
    (hK : SafeL P ops l ⟨fr', hL hl', nx', lo⟩ K) : SafeL P ops (⟨dst, op, ty, pos, after, none⟩ :: l) ⟨fr, hL hl, nx, lo⟩ K := by
  unfold step1 at he
  split at he
  · rename_i v rd wr hev
    cases he
    refine SafeL.op rfl hev ?_
    simpa only [hL_upds] using hK
  · cases he

theorem evO_tmp (fr : List V) (t : Nat) : evO fr (.tmp t) = fr.getD t .any := rfl
theorem evO_int (fr : List V) (k : IntKind) (n : Int) : evO fr (.const (.int k n)) = .d (.int k n) := rfl
theorem evO_bool (fr : List V) (b : Bool) : evO fr (.const (.bool b)) = .d (.bool b) := rfl
theorem evO_str (fr : List V) (s : ByteArray) : evO fr (.const (.string s)) = .d (.str s) := rfl
theorem evO_func (fr : List V) (f : FuncId) : evO fr (.func f) = .d (.fn f) := rfl
theorem evO_nils (fr : List V) : evO fr (.const (.slice none 0 0)) = .d .nils := rfl

theorem set_same {fr : List V} {t : Nat} {v : V} (h : fr[t]? = some v) : fr.set t v = fr := by
  apply List.ext_getElem? 
  intro i
  rw [List.getElem?_set]
  split
  · rename_i hi; subst hi
    split
    · exact h.symm
    · rename_i hn; rw [List.getElem?_eq_none (Nat.le_of_not_lt hn)]
  · rfl

/-- A guarded operation. -/
theorem SafeL.gCase {ops : Array Oper} {dst : Option Tmp} {op : Op} {ty : TypeId} {pos : String} {after : Array Edge} {l : List Oper} {K : St → Prop} {j : Nat} {want b : Bool} {fr fr1 fr2 : List V} {h : Hp} {nx lo : Nat} {t : Tmp} (hj : (ops[j]?).bind (·.dst) = some t) (hb : fr[t]? = some (.d (.bool b)))
    (h1 : fr.set t (.d (.bool want)) = fr1) (h2 : put (fr.set t (.d (.bool (!want)))) dst (.tup []) = fr2)
    (hyes : b = want → SafeL P ops (⟨dst, op, ty, pos, after, none⟩ :: l) ⟨fr1, h, nx, lo⟩ K) (hno : b = (!want) → SafeL P ops l ⟨fr2, h, nx, lo⟩ K) : SafeL P ops (⟨dst, op, ty, pos, after, some (j, want)⟩ :: l) ⟨fr, h, nx, lo⟩ K := by
  subst h1; subst h2
  refine SafeL.guarded rfl hj hb (fun hbw => by subst hbw; have := hyes rfl; rwa [set_same hb] at this) fun hbw => ?_
  have hbw' : b = (!want) := by cases b <;> cases want <;> simp_all
  subst hbw'
  have := hno rfl
  rwa [set_same hb] at this

theorem SafeL.gUn {ops : Array Oper} {dst : Option Tmp} {op : Op} {ty : TypeId} {pos : String} {after : Array Edge} {l : List Oper} {K : St → Prop} {j : Nat} {want : Bool} {fr fr2 : List V} {h : Hp} {nx lo : Nat} {t : Tmp} (hj : (ops[j]?).bind (·.dst) = some t) (hb : fr[t]? = some (.tup []))
    (h2 : put fr dst (.tup []) = fr2) (hno : SafeL P ops l ⟨fr2, h, nx, lo⟩ K) : SafeL P ops (⟨dst, op, ty, pos, after, some (j, want)⟩ :: l) ⟨fr, h, nx, lo⟩ K := by
  subst h2
  exact SafeL.unwanted rfl hj hb hno
/-- A gate: is the next operation guarded? -/
theorem SafeL.gate {ops : Array Oper} {dst : Option Tmp} {op : Op} {ty : TypeId} {pos : String} {after : Array Edge} {l : List Oper} {K : St → Prop} {g : Nat × Bool} {fr : List V} {h : Hp} {nx lo : Nat} (hh : SafeL P ops (⟨dst, op, ty, pos, after, some g⟩ :: l) ⟨fr, h, nx, lo⟩ K) : SafeL P ops (⟨dst, op, ty, pos, after, some g⟩ :: l) ⟨fr, h, nx, lo⟩ K := hh
theorem Safe.gate {c : Operand} {x y : Code} {fr : List V} {h : Hp} {nx lo : Nat} (hh : Safe P (.cond c x y) ⟨fr, h, nx, lo⟩ Q) : Safe P (.cond c x y) ⟨fr, h, nx, lo⟩ Q := hh
theorem SafeL.gYes {ops : Array Oper} {dst : Option Tmp} {op : Op} {ty : TypeId} {pos : String} {after : Array Edge} {l : List Oper} {K : St → Prop} {j : Nat} {want : Bool} {fr : List V} {h : Hp} {nx lo : Nat} {t : Tmp} (hj : (ops[j]?).bind (·.dst) = some t) (hb : fr[t]? = some (.d (.bool want)))
    (hyes : SafeL P ops (⟨dst, op, ty, pos, after, none⟩ :: l) ⟨fr, h, nx, lo⟩ K) : SafeL P ops (⟨dst, op, ty, pos, after, some (j, want)⟩ :: l) ⟨fr, h, nx, lo⟩ K :=
  SafeL.guarded rfl hj hb (fun _ => hyes) fun h => absurd rfl h
theorem SafeL.gNo {ops : Array Oper} {dst : Option Tmp} {op : Op} {ty : TypeId} {pos : String} {after : Array Edge} {l : List Oper} {K : St → Prop} {j : Nat} {want b : Bool} {fr fr2 : List V} {h : Hp} {nx lo : Nat} {t : Tmp} (hj : (ops[j]?).bind (·.dst) = some t) (hb : fr[t]? = some (.d (.bool b))) (hw : b = !want)
    (h2 : put fr dst (.tup []) = fr2) (hno : SafeL P ops l ⟨fr2, h, nx, lo⟩ K) : SafeL P ops (⟨dst, op, ty, pos, after, some (j, want)⟩ :: l) ⟨fr, h, nx, lo⟩ K := by
  subst h2; subst hw
  exact SafeL.guarded rfl hj hb (fun h => by cases want <;> cases h) fun _ => hno

section
variable {ops : Array Oper} {dst : Option Tmp} {op : Op} {ty : TypeId} {pos : String} {after : Array Edge} {l : List Oper} {K : St → Prop} {j : Nat} {p : Prop} {dp : Decidable p} {fr fr1 fr2 : List V} {h : Hp} {nx lo : Nat} {t : Tmp}
/-- A guarded operation whose guard is a question. -/
theorem SafeL.gT (hj : (ops[j]?).bind (·.dst) = some t) (hb : fr[t]? = some (.d (.bool (decide p)))) (h1 : fr.set t (.d (.bool true)) = fr1) (h2 : put (fr.set t (.d (.bool false))) dst (.tup []) = fr2)
    (hyes : p → SafeL P ops (⟨dst, op, ty, pos, after, none⟩ :: l) ⟨fr1, h, nx, lo⟩ K) (hno : ¬ p → SafeL P ops l ⟨fr2, h, nx, lo⟩ K) : SafeL P ops (⟨dst, op, ty, pos, after, some (j, true)⟩ :: l) ⟨fr, h, nx, lo⟩ K :=
  SafeL.gCase hj hb h1 h2 (fun h => hyes (of_decide_eq_true h)) fun h => hno (of_decide_eq_false h)
theorem SafeL.gF (hj : (ops[j]?).bind (·.dst) = some t) (hb : fr[t]? = some (.d (.bool (decide p)))) (h1 : fr.set t (.d (.bool false)) = fr1) (h2 : put (fr.set t (.d (.bool true))) dst (.tup []) = fr2)
    (hyes : ¬ p → SafeL P ops (⟨dst, op, ty, pos, after, none⟩ :: l) ⟨fr1, h, nx, lo⟩ K) (hno : p → SafeL P ops l ⟨fr2, h, nx, lo⟩ K) : SafeL P ops (⟨dst, op, ty, pos, after, some (j, false)⟩ :: l) ⟨fr, h, nx, lo⟩ K :=
  SafeL.gCase hj hb h1 h2 (fun h => hyes (of_decide_eq_false h)) fun h => hno (of_decide_eq_true h)
end

/-! ### Exits -/
theorem Safe.regionL {i : Nat} {l : List Oper} (h : SafeL P l.toArray l st (Q .normal)) : Safe P (.region i (List.toArray l) false) st Q := .region h
theorem and_n {K : St → Prop} (h : K st) : Ex.andThen K Q .normal st := h
theorem and_r {K : St → Prop} (h : Q .ret st) : Ex.andThen K Q .ret st := h
theorem and_e {K : St → Prop} {i : Nat} (h : Q (.exit i) st) : Ex.andThen K Q (.exit i) st := h
theorem in_n {i : Nat} (h : Q .normal st) : Ex.inBlock i Q .normal st := h
theorem in_r {i : Nat} (h : Q .ret st) : Ex.inBlock i Q .ret st := h
theorem in_e {i : Nat} (h : Q .normal st) : Ex.inBlock i Q (.exit i) st := by simpa [Ex.inBlock] using h
theorem in_o {i j : Nat} (hj : j ≠ i) (h : Q (.exit j) st) : Ex.inBlock i Q (.exit j) st := by simpa [Ex.inBlock, hj] using h

/-- A branch. -/
theorem Safe.condT {c : Operand} {x y : Code} {b : Bool} (hc : evO st.fr c = .d (.bool b)) (hb : b = true) (h : Safe P x st Q) : Safe P (.cond c x y) st Q := .cond hc (fun _ => h) fun h => by rw [hb] at h; cases h
theorem Safe.condF {c : Operand} {x y : Code} {b : Bool} (hc : evO st.fr c = .d (.bool b)) (hb : b = false) (h : Safe P y st Q) : Safe P (.cond c x y) st Q := .cond hc (fun h => by rw [hb] at h; cases h) fun _ => h
theorem Safe.condD {c : Operand} {x y : Code} {p : Prop} {dp : Decidable p} {fr : List V} {h : Hp} {nx lo : Nat} (hc : evO fr c = .d (.bool (decide p))) (ht : p → Safe P x ⟨fr, h, nx, lo⟩ Q) (hf : ¬ p → Safe P y ⟨fr, h, nx, lo⟩ Q) : Safe P (.cond c x y) ⟨fr, h, nx, lo⟩ Q :=
  .cond hc (fun h => ht (of_decide_eq_true h)) fun h => hf (of_decide_eq_false h)

theorem int_beq (a b : Int) : (a == b) = decide (a = b) := by by_cases h : a = b <;> simp [h]
theorem evInt_eql (k : IntKind) (a b : Int) : evInt .eql k a k b = some (.bool (decide (a = b))) := by simp [evInt, int_beq]
theorem evInt_neq (k : IntKind) (a b : Int) : evInt .neq k a k b = some (.bool (decide (¬ a = b))) := by simp [evInt, bne, int_beq]
theorem evInt_lss (k : IntKind) (a b : Int) : evInt .lss k a k b = some (.bool (decide (a < b))) := by simp [evInt]
theorem evInt_leq (k : IntKind) (a b : Int) : evInt .leq k a k b = some (.bool (decide (a ≤ b))) := by simp [evInt]
theorem evInt_gtr (k : IntKind) (a b : Int) : evInt .gtr k a k b = some (.bool (decide (b < a))) := by simp [evInt]
theorem evInt_geq (k : IntKind) (a b : Int) : evInt .geq k a k b = some (.bool (decide (b ≤ a))) := by simp [evInt]
theorem evInt_add (k : IntKind) (a b : Int) : evInt .add k a k b = some (.int k (k.wrap (a + b))) := by simp [evInt]
theorem evInt_sub (k : IntKind) (a b : Int) : evInt .sub k a k b = some (.int k (k.wrap (a - b))) := by simp [evInt]
theorem evInt_mul (k : IntKind) (a b : Int) : evInt .mul k a k b = some (.int k (k.wrap (a * b))) := by simp [evInt]
theorem evInt_quo (k : IntKind) (a b : Int) (h : b ≠ 0) : evInt .quo k a k b = some (.int k (k.wrap (a.tdiv b))) := by simp [evInt, h]
theorem evInt_rem (k : IntKind) (a b : Int) (h : b ≠ 0) : evInt .rem k a k b = some (.int k (a.tmod b)) := by simp [evInt, h]
theorem not_decide {p : Prop} [Decidable p] : (!decide p) = decide (¬ p) := (decide_not).symm
theorem wrap_i64 {x : Int} (h : -9223372036854775808 ≤ x ∧ x ≤ 9223372036854775807) : IntKind.i64.wrap x = x := by
  have e : IntKind.i64.wrap x = if (true && decide (x % 18446744073709551616 ≥ 9223372036854775808)) = true then x % 18446744073709551616 - 18446744073709551616 else x % 18446744073709551616 := rfl
  rw [e]
  simp only [Bool.true_and, decide_eq_true_eq]
  split <;> omega
theorem wrap_u8 {x : Int} (h : 0 ≤ x ∧ x ≤ 255) : IntKind.u8.wrap x = x := by
  have e : IntKind.u8.wrap x = if (false && decide (x % 256 ≥ 128)) = true then x % 256 - 256 else x % 256 := rfl
  rw [e]
  simp only [Bool.false_and, Bool.false_eq_true, if_false]
  omega
theorem wrap_u32 {x : Int} (h : 0 ≤ x ∧ x ≤ 4294967295) : IntKind.u32.wrap x = x := by
  have e : IntKind.u32.wrap x = if (false && decide (x % 4294967296 ≥ 2147483648)) = true then x % 4294967296 - 4294967296 else x % 4294967296 := rfl
  rw [e]
  simp only [Bool.false_and, Bool.false_eq_true, if_false]
  omega
theorem nxt_nil (nx : Nat) : nxt nx [] = nx := rfl
theorem nxt_cons (nx : Nat) (p : Nat × Blk) (wr : List (Nat × Blk)) : nxt nx (p :: wr) = if ((p.1 == nx) || wr.any (fun p => p.1 == nx)) = true then nx + 1 else nx := rfl
attribute [go_sem] step1 evOp evO_tmp evO_int evO_bool evO_str evO_func evO_nils put updsL setL nxt_nil nxt_cons rd1 rd2 wr2 evBin evInt_eql evInt_neq evInt_lss evInt_leq evInt_gtr evInt_geq evInt_add evInt_sub evInt_mul evUn not_decide
  List.getD_cons_zero List.getD_cons_succ List.set_cons_zero List.set_cons_succ List.getElem?_cons_zero List.getElem?_cons_succ if_true if_false Option.map_some Option.map_none List.any_nil List.any_cons Bool.false_eq_true Bool.not_true Bool.not_false List.map_nil List.map_cons List.length_nil List.length_cons
end
end Go.Proofs.YtepahgbgijmipaaEv
