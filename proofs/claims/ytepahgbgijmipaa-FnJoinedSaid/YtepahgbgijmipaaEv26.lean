/- A logic over abstract states for walks, twenty-sixth part: the rules with their side conditions in one order, for short walks. -/
import Derived.Test.YtepahgbgijmipaaEv25
namespace Go.Proofs.YtepahgbgijmipaaEv
open Go Go.RowKit
attribute [go_sem] List.length_map List.getElem?_map Int.toNat_natCast true_and and_true reduceCtorEq List.reduceReplicate
theorem mapO_app {α β : Type} {f : α → Option β} : ∀ (l m : List α), mapO f (l ++ m) = (mapO f l).bind fun a => (mapO f m).map (a ++ ·)
  | [], m => by simp [mapO]
  | x :: l, m => by
    simp only [List.cons_append, mapO, mapO_app l m]
    cases f x <;> cases mapO f l <;> cases mapO f m <;> rfl
@[go_sem] theorem evO_nilp (fr : List V) : evO fr (.const (.pointer none)) = .d .nilp := rfl
attribute [go_sem] mapO_app Option.bind_some
section
variable {P : Program} {ops : Array Oper} {dst : Option Tmp} {op : Op} {ty : TypeId} {pos : String} {after : Array Edge} {l : List Oper} {K : St → Prop} {fr fr' fr1 fr2 : List V} {hl hl' hl1 hl2 : List (Option Blk)} {h : Hp} {nx nx' lo : Nat} {j : Nat} {t : Tmp} {Q : Ex → St → Prop}

section
variable {fo : Operand} {args : Array Operand} {ats : Array TypeId} {g : FuncId} {caps vs : List V} {ids : List Nat} {bx bx' : List Blk} {args' args2 : List V} {r : V}
/-- A call whose result is told. -/
theorem SafeL.cA (hf : calleeOf (evO fr fo) = some (g, caps)) (hv : args.toList.map (evO fr) ++ caps = vs) (hi : idsOf [] vs = ids) (hargs : argF.argsF ids vs = some args') (hbx : mapO (hL hl) ids = some bx)
    (he : enters P g = true) (hn : ids.Nodup) (hp : ∀ B ∈ bx, PureB B) (hs : FnSpec P g args' bx fun r' b => r' = r ∧ b = bx') (h1 : put fr dst r = fr1) (h2 : backL hl ids bx' = hl1) (hK : SafeL P ops l ⟨fr1, hL hl1, nx, lo⟩ K) :
    SafeL P ops (⟨dst, .call { callee := .value fo, args := args, argTypes := ats }, ty, pos, after, none⟩ :: l) ⟨fr, hL hl, nx, lo⟩ K :=
  SafeL.callA hf he hv hi hargs hn hbx hp hs h1 h2 hK
/-- A call by a contract, whatever it says. -/
theorem SafeL.cR {R : V → List Blk → Prop} (hf : calleeOf (evO fr fo) = some (g, caps)) (hv : args.toList.map (evO fr) ++ caps = vs) (hi : idsOf [] vs = ids) (hargs : argF.argsF ids vs = some args') (hbx : mapO (hL hl) ids = some bx)
    (he : enters P g = true) (hn : ids.Nodup) (hp : ∀ B ∈ bx, PureB B) (hs : FnSpec P g args' bx R) (hK : ∀ r bx', R r bx' → SafeL P ops l ⟨put fr dst r, hL (backL hl ids bx'), nx, lo⟩ K) :
    SafeL P ops (⟨dst, .call { callee := .value fo, args := args, argTypes := ats }, ty, pos, after, none⟩ :: l) ⟨fr, hL hl, nx, lo⟩ K :=
  SafeL.callR hf he hv hi hargs hn hbx hp hs hK
theorem SafeL.cO {R : V → List Blk → Prop} (hf : calleeOf (evO fr fo) = some (g, caps)) (hv : args.toList.map (evO fr) ++ caps = vs) (hi : idsOf [] vs = ids) (hargs : argF.argsF ids vs = some args') (hbx : mapO (hL hl) ids = some bx)
    (he : enters P g = true) (hn : ids.Nodup) (hp : ∀ B ∈ bx, PureB B) (hs : FnOwn P g args' bx R) (hK : ∀ r bx', R r bx' → SafeL P ops l ⟨put fr dst (liftV ids nx r), hL (ownL hl ids nx bx'), nx + (bx'.length - ids.length), lo⟩ K) :
    SafeL P ops (⟨dst, .call { callee := .value fo, args := args, argTypes := ats }, ty, pos, after, none⟩ :: l) ⟨fr, hL hl, nx, lo⟩ K :=
  SafeL.callO hf he hv hi hargs hn hbx hp hs hK
/-- A call that reads its caller's own blocks by value. -/
theorem SafeL.cM (hf : calleeOf (evO fr fo) = some (g, caps)) (hv : args.toList.map (evO fr) ++ caps = vs) (hi : ptrIds [] vs = ids) (hm : mapO (mixF (hL hl) ids 4) vs = some args2) (hargs : argF.argsF ids args2 = some args') (hbx : mapO (hL hl) ids = some bx)
    (he : enters P g = true) (hn : ids.Nodup) (hp : ∀ B ∈ bx, PureB B) (hfl : ∀ B ∈ bx, FlatB B) (hs : FnSpec P g args' bx fun r' b => r' = r ∧ b = bx) (hr : Flat r) (h1 : put fr dst r = fr1) (hK : SafeL P ops l ⟨fr1, hL hl, nx, lo⟩ K) :
    SafeL P ops (⟨dst, .call { callee := .value fo, args := args, argTypes := ats }, ty, pos, after, none⟩ :: l) ⟨fr, hL hl, nx, lo⟩ K :=
  SafeL.callM 4 hf he hv hi hm hargs hn hbx hp hfl hs hr h1 hK
end
/-- The state of a goal, computed. -/
theorem SafeL.nm (e1 : fr = fr') (e2 : hl = hl') (hK : SafeL P ops l ⟨fr', hL hl', nx, lo⟩ K) : SafeL P ops l ⟨fr, hL hl, nx, lo⟩ K := by subst e1; subst e2; exact hK
theorem SafeL.nmx (e1 : fr = fr') (e2 : hl = hl') (e3 : nx = nx') (hK : SafeL P ops l ⟨fr', hL hl', nx', lo⟩ K) : SafeL P ops l ⟨fr, hL hl, nx, lo⟩ K := by subst e1; subst e2; subst e3; exact hK

/-! ### Guards -/
theorem SafeL.qY {want : Bool} (hj : (ops[j]?).bind (·.dst) = some t) (hb : fr[t]? = some (.d (.bool want))) (hK : SafeL P ops (⟨dst, op, ty, pos, after, none⟩ :: l) ⟨fr, h, nx, lo⟩ K) :
    SafeL P ops (⟨dst, op, ty, pos, after, some (j, want)⟩ :: l) ⟨fr, h, nx, lo⟩ K := SafeL.gYes hj hb hK
theorem SafeL.qN {want b : Bool} (hj : (ops[j]?).bind (·.dst) = some t) (hb : fr[t]? = some (.d (.bool b))) (hw : b = !want) (h2 : put fr dst (.tup []) = fr2) (hK : SafeL P ops l ⟨fr2, h, nx, lo⟩ K) :
    SafeL P ops (⟨dst, op, ty, pos, after, some (j, want)⟩ :: l) ⟨fr, h, nx, lo⟩ K := SafeL.gNo hj hb hw h2 hK
theorem SafeL.qU {want : Bool} (hj : (ops[j]?).bind (·.dst) = some t) (hb : fr[t]? = some (.tup [])) (h2 : put fr dst (.tup []) = fr2) (hK : SafeL P ops l ⟨fr2, h, nx, lo⟩ K) :
    SafeL P ops (⟨dst, op, ty, pos, after, some (j, want)⟩ :: l) ⟨fr, h, nx, lo⟩ K := SafeL.gUn hj hb h2 hK
section
variable {p : Prop} {dp : Decidable p}
theorem SafeL.qT (hj : (ops[j]?).bind (·.dst) = some t) (hb : fr[t]? = some (.d (.bool (decide p)))) (h1 : fr.set t (.d (.bool true)) = fr1) (h2 : put (fr.set t (.d (.bool false))) dst (.tup []) = fr2) (hyes : p → SafeL P ops (⟨dst, op, ty, pos, after, none⟩ :: l) ⟨fr1, h, nx, lo⟩ K) (hno : ¬ p → SafeL P ops l ⟨fr2, h, nx, lo⟩ K) :
    SafeL P ops (⟨dst, op, ty, pos, after, some (j, true)⟩ :: l) ⟨fr, h, nx, lo⟩ K := SafeL.gT hj hb h1 h2 hyes hno
theorem SafeL.qF (hj : (ops[j]?).bind (·.dst) = some t) (hb : fr[t]? = some (.d (.bool (decide p)))) (h1 : fr.set t (.d (.bool false)) = fr1) (h2 : put (fr.set t (.d (.bool true))) dst (.tup []) = fr2) (hyes : ¬ p → SafeL P ops (⟨dst, op, ty, pos, after, none⟩ :: l) ⟨fr1, h, nx, lo⟩ K) (hno : p → SafeL P ops l ⟨fr2, h, nx, lo⟩ K) :
    SafeL P ops (⟨dst, op, ty, pos, after, some (j, false)⟩ :: l) ⟨fr, h, nx, lo⟩ K := SafeL.gF hj hb h1 h2 hyes hno
end
theorem SafeL.qB {want b : Bool} (hj : (ops[j]?).bind (·.dst) = some t) (hb : fr[t]? = some (.d (.bool b))) (h1 : fr.set t (.d (.bool want)) = fr1) (h2 : put (fr.set t (.d (.bool (!want)))) dst (.tup []) = fr2) (hyes : b = want → SafeL P ops (⟨dst, op, ty, pos, after, none⟩ :: l) ⟨fr1, h, nx, lo⟩ K) (hno : b = (!want) → SafeL P ops l ⟨fr2, h, nx, lo⟩ K) :
    SafeL P ops (⟨dst, op, ty, pos, after, some (j, want)⟩ :: l) ⟨fr, h, nx, lo⟩ K := SafeL.gCase hj hb h1 h2 hyes hno

/-! ### Branches, the end -/
section
variable {c : Operand} {x y : Code}
theorem Safe.iT {b : Bool} (hc : evO fr c = .d (.bool b)) (hb : b = true) (hK : Safe P x ⟨fr, h, nx, lo⟩ Q) : Safe P (.cond c x y) ⟨fr, h, nx, lo⟩ Q := Safe.condT hc hb hK
theorem Safe.iF {b : Bool} (hc : evO fr c = .d (.bool b)) (hb : b = false) (hK : Safe P y ⟨fr, h, nx, lo⟩ Q) : Safe P (.cond c x y) ⟨fr, h, nx, lo⟩ Q := Safe.condF hc hb hK
theorem Safe.iD {p : Prop} {dp : Decidable p} (hc : evO fr c = .d (.bool (decide p))) (ht : p → Safe P x ⟨fr, h, nx, lo⟩ Q) (hf : ¬ p → Safe P y ⟨fr, h, nx, lo⟩ Q) : Safe P (.cond c x y) ⟨fr, h, nx, lo⟩ Q := Safe.condD hc ht hf
theorem Safe.iB {b : Bool} (hc : evO fr c = .d (.bool b)) (ht : b = true → Safe P x ⟨fr, h, nx, lo⟩ Q) (hf : b = false → Safe P y ⟨fr, h, nx, lo⟩ Q) : Safe P (.cond c x y) ⟨fr, h, nx, lo⟩ Q := Safe.cond hc ht hf
end
theorem RetP.en {rs : List ResultVar} {bx bx' : List Blk} {R : V → List Blk → Prop} {k : Nat} {r y : V} (hr : resV P rs ⟨fr, hL hl, nx, lo⟩ = some r) (hk : bx.length = k) (hy : fzV (hL hl) k 4 r = some y) (hb : fzL (hL hl) k 4 k hl = some bx') (hsh : SameShape bx bx') (hR : R y bx') : RetP P rs bx R .ret ⟨fr, hL hl, nx, lo⟩ := RetP.mk (.inr rfl) hr hk 4 hy hb hsh hR
theorem RetP.en' {rs : List ResultVar} {bx bx' : List Blk} {R : V → List Blk → Prop} {k : Nat} {r y : V} (hr : resV P rs ⟨fr, hL hl, nx, lo⟩ = some r) (hk : bx.length = k) (hy : fzV (hL hl) k 4 r = some y) (hb : fzL (hL hl) k 4 k hl = some bx') (hsh : SameShape bx bx') (hR : R y bx') : RetP P rs bx R .normal ⟨fr, hL hl, nx, lo⟩ := RetP.mk (.inl rfl) hr hk 4 hy hb hsh hR
def unO : List (Option Blk) → Option (List Blk)
  | [] => some []
  | some B :: r => (unO r).map (B :: ·)
  | none :: _ => none
theorem unO_some : ∀ {l : List (Option Blk)} {bs : List Blk}, unO l = some bs → l = bs.map some
  | [], bs, h => by simp [unO] at h; subst h; rfl
  | some B :: r, bs, h => by
    simp only [unO, Option.map_eq_some_iff] at h
    obtain ⟨b, h1, rfl⟩ := h
    rw [unO_some h1]; rfl
  | none :: _, bs, h => by simp [unO] at h
theorem RetO.en {rs : List ResultVar} {bx bx' : List Blk} {R : V → List Blk → Prop} {l1 l2 : List (Option Blk)} {k : Nat} {r y : V} (ids : List Nat) (hr : resV P rs ⟨fr, hL hl, nx, lo⟩ = some r) (hk : bx.length = k) (hn : ids.Nodup) (hge : ids.all (fun i => decide (k ≤ i)) = true) (hy : cnV (hL hl) k ids 4 r = some y)
    (h1 : mapO (cnB (hL hl) k ids 4) (hl.take k) = some l1) (hc : l1.length = k) (h2 : mapO (fun i => cnZ (hL hl) k ids 4 (hL hl i)) ids = some l2) (hb : unO (l1 ++ l2) = some bx') (hsh : SameShape bx (bx'.take k)) (hR : R y bx') : RetO P rs bx R .ret ⟨fr, hL hl, nx, lo⟩ :=
  RetO.mk (.inr rfl) ids hr hk 4 hn hge hy h1 hc h2 (unO_some hb) hsh hR
attribute [go_sem] unO
/-- Entering a function. -/
theorem FnSpec.go {f : FuncId} {fn : Func} {c : Code} {args : List V} {bx : List Blk} {nt k : Nat} {rs : List ResultVar} {R : V → List Blk → Prop} (hf : P.funcs[f]? = some fn) (hs : Safe P c ⟨fr, hL hl, k, k⟩ (RetP P rs bx R)) (hb : fn.body = some c := by rfl) (hrs : fn.results.toList = rs := by rfl) (hn : fn.ntmps = nt := by rfl)
    (hfr : args ++ List.replicate (nt - args.length) .any = fr := by (simp only [List.length_cons, List.length_nil, Nat.reduceAdd, Nat.reduceSub, List.reduceReplicate, List.cons_append, List.nil_append]; rfl)) (hbx : bx.map some = hl := by (simp only [List.map_nil, List.map_cons]; rfl)) (hk : bx.length = k := by (simp only [List.length_cons, List.length_nil, Nat.zero_add, Nat.reduceAdd]; rfl)) : FnSpec P f args bx R :=
  FnSpec.enter hf hb hrs hn hfr hbx hk hs
theorem FnOwn.go {f : FuncId} {fn : Func} {c : Code} {args : List V} {bx : List Blk} {nt k : Nat} {rs : List ResultVar} {R : V → List Blk → Prop} (hf : P.funcs[f]? = some fn) (hs : Safe P c ⟨fr, hL hl, k, k⟩ (RetO P rs bx R)) (hb : fn.body = some c := by rfl) (hrs : fn.results.toList = rs := by rfl) (hn : fn.ntmps = nt := by rfl)
    (hfr : args ++ List.replicate (nt - args.length) .any = fr := by (simp only [List.length_cons, List.length_nil, Nat.reduceAdd, Nat.reduceSub, List.reduceReplicate, List.cons_append, List.nil_append]; rfl)) (hbx : bx.map some = hl := by (simp only [List.map_nil, List.map_cons]; rfl)) (hk : bx.length = k := by (simp only [List.length_cons, List.length_nil, Nat.zero_add, Nat.reduceAdd]; rfl)) : FnOwn P f args bx R :=
  FnOwn.enter hf hb hrs hn hfr hbx hk hs

/-! ### Regions that draw -/
section
variable {base k : Nat} {KL : List Entry → List V → List (Option Blk) → Prop} {want b : Bool}
theorem LexK.en {L : List Entry} {nx0 : Nat} (hf : fpB ops (L.map foot) = true) (hn : nxtD nx0 L = nx') (hQ : Q .normal ⟨fr, hL hl, nx', lo⟩) :
    fpB ops (L.map foot) = true ∧ ∃ nx', nxtD nx0 L = nx' ∧ Q .normal ⟨fr, hL hl, nx', lo⟩ := ⟨hf, nx', hn, hQ⟩
theorem LexK.st {id k1 : Nat} {e : Entry} (hid : base + k = id) (he : step1D P fr hl id dst op = some (e, fr1, hl1)) (hk : k + 1 = k1) (h : LexK P ops base l k1 fr1 hl1 fun L => KL (e :: L)) :
    LexK P ops base (⟨dst, op, ty, pos, after, none⟩ :: l) k fr hl KL := LexK.step hid he hk h
theorem LexK.qY (hj : (ops[j]?).bind (·.dst) = some t) (hb : fr[t]? = some (.d (.bool want))) (h : LexK P ops base (⟨dst, op, ty, pos, after, none⟩ :: l) k fr hl KL) : LexK P ops base (⟨dst, op, ty, pos, after, some (j, want)⟩ :: l) k fr hl KL := LexK.gYes hj hb h
theorem LexK.qN {k1 : Nat} (hj : (ops[j]?).bind (·.dst) = some t) (hb : fr[t]? = some (.d (.bool b))) (hw : b = !want) (hk : k + 1 = k1) (hf : put fr dst (.tup []) = fr1) (h : LexK P ops base l k1 fr1 hl fun L => KL ((.tup [], [], []) :: L)) :
    LexK P ops base (⟨dst, op, ty, pos, after, some (j, want)⟩ :: l) k fr hl KL := LexK.gNo hj hb hw hk hf h
theorem LexK.qU {k1 : Nat} (hj : (ops[j]?).bind (·.dst) = some t) (hb : fr[t]? = some (.tup [])) (hk : k + 1 = k1) (hf : put fr dst (.tup []) = fr1) (h : LexK P ops base l k1 fr1 hl fun L => KL ((.tup [], [], []) :: L)) :
    LexK P ops base (⟨dst, op, ty, pos, after, some (j, want)⟩ :: l) k fr hl KL := LexK.gUn hj hb hk hf h
variable {p : Prop} {dp : Decidable p}
theorem LexK.qT {k1 : Nat} (hj : (ops[j]?).bind (·.dst) = some t) (hb : fr[t]? = some (.d (.bool (decide p)))) (h1 : fr.set t (.d (.bool true)) = fr1) (hk : k + 1 = k1) (h2 : put (fr.set t (.d (.bool false))) dst (.tup []) = fr2) (hyes : p → LexK P ops base (⟨dst, op, ty, pos, after, none⟩ :: l) k fr1 hl KL) (hno : ¬ p → LexK P ops base l k1 fr2 hl fun L => KL ((.tup [], [], []) :: L)) :
    LexK P ops base (⟨dst, op, ty, pos, after, some (j, true)⟩ :: l) k fr hl KL := LexK.gT hj hb h1 hk h2 hyes hno
theorem LexK.qF {k1 : Nat} (hj : (ops[j]?).bind (·.dst) = some t) (hb : fr[t]? = some (.d (.bool (decide p)))) (h1 : fr.set t (.d (.bool false)) = fr1) (hk : k + 1 = k1) (h2 : put (fr.set t (.d (.bool true))) dst (.tup []) = fr2) (hyes : ¬ p → LexK P ops base (⟨dst, op, ty, pos, after, none⟩ :: l) k fr1 hl KL) (hno : p → LexK P ops base l k1 fr2 hl fun L => KL ((.tup [], [], []) :: L)) :
    LexK P ops base (⟨dst, op, ty, pos, after, some (j, false)⟩ :: l) k fr hl KL := LexK.gF hj hb h1 hk h2 hyes hno
variable {fo : Operand} {args : Array Operand} {ats : Array TypeId} {g : FuncId} {caps vs : List V} {ids : List Nat} {bx bx' : List Blk} {args' : List V} {r : V}
theorem LexK.cQ {k1 : Nat} (hf : calleeOf (evO fr fo) = some (g, caps)) (hv : args.toList.map (evO fr) ++ caps = vs) (hi : idsOf [] vs = ids) (hargs : argF.argsF ids vs = some args') (hbx : mapO (hL hl) ids = some bx) (he : enters P g = true) (hn : ids.Nodup) (hp : ∀ B ∈ bx, PureB B)
    (hs : FnSpec P g args' bx fun r' b => r' = r ∧ b = bx) (h1 : put fr dst r = fr1) (hk : k + 1 = k1) (h : LexK P ops base l k1 fr1 hl fun L => KL ((r, ids, []) :: L)) : LexK P ops base (⟨dst, .call { callee := .value fo, args := args, argTypes := ats }, ty, pos, after, none⟩ :: l) k fr hl KL := LexK.callQ hf he hv hi hargs hn hbx hp hs h1 hk h
theorem LexK.cA {k1 : Nat} {wr : List (Nat × Blk)} (hf : calleeOf (evO fr fo) = some (g, caps)) (hv : args.toList.map (evO fr) ++ caps = vs) (hi : idsOf [] vs = ids) (hargs : argF.argsF ids vs = some args') (hbx : mapO (hL hl) ids = some bx) (he : enters P g = true) (hn : ids.Nodup) (hp : ∀ B ∈ bx, PureB B)
    (hs : FnSpec P g args' bx fun r' b => r' = r ∧ b = bx') (h1 : put fr dst r = fr1) (h2 : (ids.zip bx').reverse = wr) (h3 : updsL hl wr = hl1) (hk : k + 1 = k1) (h : LexK P ops base l k1 fr1 hl1 fun L => KL ((r, ids, wr) :: L)) :
    LexK P ops base (⟨dst, .call { callee := .value fo, args := args, argTypes := ats }, ty, pos, after, none⟩ :: l) k fr hl KL := LexK.callA hf he hv hi hargs hn hbx hp hs h1 h2 h3 hk h
/-- A function with one result, of which something is told. -/
def DetSpec (P : Program) (f : FuncId) (args : List V) (bx : List Blk) (R : V → List Blk → Prop) : Prop := ∃ r b, R r b ∧ FnSpec P f args bx fun r' b' => r' = r ∧ b' = b
theorem DetSpec.spec {f : FuncId} {args : List V} {bx : List Blk} {R : V → List Blk → Prop} (h : DetSpec P f args bx R) : FnSpec P f args bx R := by
  obtain ⟨r, b, h1, h2⟩ := h
  exact h2.mono fun r' b' ⟨e1, e2⟩ => by subst e1; subst e2; exact h1
theorem SafeL.cD {K : St → Prop} {R : V → List Blk → Prop} (hf : calleeOf (evO fr fo) = some (g, caps)) (hv : args.toList.map (evO fr) ++ caps = vs) (hi : idsOf [] vs = ids) (hargs : argF.argsF ids vs = some args') (hbx : mapO (hL hl) ids = some bx)
    (he : enters P g = true) (hn : ids.Nodup) (hp : ∀ B ∈ bx, PureB B) (hs : DetSpec P g args' bx R) (hK : ∀ r bx', R r bx' → SafeL P ops l ⟨put fr dst r, hL (backL hl ids bx'), nx, lo⟩ K) :
    SafeL P ops (⟨dst, .call { callee := .value fo, args := args, argTypes := ats }, ty, pos, after, none⟩ :: l) ⟨fr, hL hl, nx, lo⟩ K :=
  SafeL.callR hf he hv hi hargs hn hbx hp hs.spec hK
theorem LexK.cD {R : V → List Blk → Prop} (hf : calleeOf (evO fr fo) = some (g, caps)) (hv : args.toList.map (evO fr) ++ caps = vs) (hi : idsOf [] vs = ids) (hargs : argF.argsF ids vs = some args') (hbx : mapO (hL hl) ids = some bx) (he : enters P g = true) (hn : ids.Nodup) (hp : ∀ B ∈ bx, PureB B)
    (hs : DetSpec P g args' bx R) (hK : ∀ r bx', R r bx' → LexK P ops base l (k + 1) (put fr dst r) (updsL hl (ids.zip bx').reverse) fun L => KL ((r, ids, (ids.zip bx').reverse) :: L)) :
    LexK P ops base (⟨dst, .call { callee := .value fo, args := args, argTypes := ats }, ty, pos, after, none⟩ :: l) k fr hl KL := by
  obtain ⟨r, b, h1, h2⟩ := hs
  exact LexK.callA hf he hv hi hargs hn hbx hp h2 rfl rfl rfl rfl (hK r b h1)
/-- The state of a goal, and the log's last entry, computed. -/
theorem LexK.nm {k1 : Nat} {e e1 : Entry} (q1 : fr = fr1) (q2 : hl = hl1) (q3 : k = k1) (q4 : e = e1) (h : LexK P ops base l k1 fr1 hl1 fun L => KL (e1 :: L)) : LexK P ops base l k fr hl fun L => KL (e :: L) := by
  subst q1; subst q2; subst q3; subst q4; exact h
end
end
end Go.Proofs.YtepahgbgijmipaaEv
