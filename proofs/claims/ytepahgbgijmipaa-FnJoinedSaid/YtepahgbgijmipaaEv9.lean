/- A logic over abstract states for walks, ninth part: equality; every operation that is no call of a function. -/
import Derived.Test.YtepahgbgijmipaaEv8
namespace Go.Proofs.YtepahgbgijmipaaEv
open Go Go.RowKit

def scalarT : TypeDesc → Bool
  | .bool | .int _ | .string => true
  | _ => false
def eqD : D → D → Option Bool
  | .bool a, .bool b => some (a == b)
  | .int k a, .int k' b => if k = k' then some (a == b) else none
  | .str a, .str b => some (a.toList == b.toList)
  | _, _ => none
def dsOf : List V → Option (List D)
  | [] => some []
  | .d x :: r => (dsOf r).map (x :: ·)
  | _ :: _ => none

section
variable {P : Program} {w : World} {S : Nat → Prop} {h : Hp} {m : Nat → Nat × Nat} {nx : Nat → Prop}

theorem dsOf_rv : ∀ (xs : List V) (ds : List D) (vs : List Value), dsOf xs = some ds → All2 (RV w S h m nx) vs xs → All2 (RD w S) vs ds
  | [], ds, vs, he, hr => by
    simp [dsOf] at he; subst he
    have : vs = [] := List.eq_nil_of_length_eq_zero hr.1
    subst this; exact All2.nil
  | x :: r, ds, vs, he, hr => by
    unfold dsOf at he
    split at he
    · rename_i heq; cases heq
    · rename_i y r' heq
      cases heq
      cases hr' : dsOf r with
      | none => simp [hr'] at he
      | some ds' =>
        simp [hr'] at he; subst he
        cases vs with
        | nil => have := hr.1; simp at this
        | cons v vs =>
          have h0 := hr.2 0 (by simp) (by simp)
          simp at h0
          have ih := dsOf_rv r ds' vs hr' (by simpa using hr.drop 1)
          refine ⟨by simp [ih.1], fun j h1 h2 => ?_⟩
          cases j with
          | zero => simp; cases h0 with | d _ _ hd => exact hd
          | succ j => simpa using ih.2 j (by simpa using h1) (by simpa using h2)
    · cases he

theorem run_part_scalar {t : TypeId} {d : TypeDesc} (hu : P.underlying t = some d) (hs : scalarT d = true) (vs : Array Value) (off : Nat) (v : Value) (hv : vs[off]? = some v) : (part t vs off).run P w = .ok v w := by
  have ha : (isAgg t).run P w = .ok false w := by
    simp only [isAgg, Sem.run_bind, run_underlying hu, Result.andThen_ok]
    cases d <;> first | rfl | (simp [scalarT] at hs)
  simp [part, ha, hv]

/-- Does a type's description fit a value? -/
def fitsD : TypeDesc → D → Bool
  | .bool, .bool _ => true
  | .int _, .int _ _ => true
  | .string, .str _ => true
  | _, _ => false
theorem eqD_run {t : TypeId} {d : TypeDesc} (hu : P.underlying t = some d) {n : Nat} {a b : Value} {x y : D} (hf : fitsD d x = true) (ha : RD w S a x) (hb : RD w S b y) {r : Bool} (he : eqD x y = some r) :
    (Op.equalIn (n + 1) t a b).run P w = .ok r w := by
  unfold eqD at he
  split at he
  · cases ha; cases hb
    cases he
    cases d <;> first | (simp [fitsD] at hf; done) | exact run_equalIn_bool w n t _ _ hu
  · cases ha; cases hb
    split at he
    · rename_i hk; subst hk; cases he
      cases d <;> first | (simp [fitsD] at hf; done) | exact run_equalIn_int w n t _ _ _ _ hu
    · cases he
  · cases ha; cases hb
    cases he
    cases d <;> first | (simp [fitsD] at hf; done) | exact run_equalIn_string w n t _ _ hu
  · cases he

end

/-- The offsets of a flat struct's fields, each with the description of its type. -/
def tflat (P : Program) (t : TypeId) : Option (List (Nat × TypeDesc)) :=
  match P.underlying t with
  | some (.struct fs) =>
    if P.stoodInHeld t = false ∧ P.eqGuardType P.depth t = false then
      fs.toList.mapM fun f => if f.name = "_" then none else match P.underlying f.type with
        | some d => if scalarT d then some (f.offset, d) else none
        | none => none
    else none
  | _ => none
def eqFlat (xs ys : List D) : List (Nat × TypeDesc) → Option Bool
  | [] => some true
  | (o, d) :: os =>
    match xs[o]?, ys[o]? with
    | some a, some b => if fitsD d a then match eqD a b, eqFlat xs ys os with
      | some r, some rs => some (r && rs)
      | _, _ => none else none
    | _, _ => none

section
variable {P : Program} {w : World} {S : Nat → Prop} {h : Hp} {m : Nat → Nat × Nat} {nx : Nat → Prop}

theorem eqFlat_run {xs ys : List D} {vs us : Array Value} (hx : All2 (RD w S) vs.toList xs) (hy : All2 (RD w S) us.toList ys) (n : Nat) : ∀ (fs : List Field) (os : List (Nat × TypeDesc)) (r : Bool),
    (fs.mapM fun f => if f.name = "_" then none else match P.underlying f.type with | some d => if scalarT d then some (f.offset, d) else none | none => none) = some os → eqFlat xs ys os = some r →
    (Op.eqFields (n + 1) vs us fs).run P w = .ok r w
  | [], os, r, hm, he => by
    simp at hm; subst hm
    simp [eqFlat] at he; subst he
    simp [Op.eqFields]
  | f :: fs, os, r, hm, he => by
    rw [List.mapM_cons] at hm
    by_cases hn : f.name = "_"
    · simp [hn] at hm
    · simp only [hn, if_false] at hm
      cases hu : P.underlying f.type with
      | none => simp [hu] at hm
      | some d =>
        by_cases hs : scalarT d = true
        · simp only [hu, hs, if_true, Option.bind_eq_bind, Option.bind_some] at hm
          cases hr : (fs.mapM fun f => if f.name = "_" then none else match P.underlying f.type with | some d => if scalarT d then some (f.offset, d) else none | none => none) with
          | none => simp [hr] at hm
          | some os' =>
            simp [hr] at hm
            subst hm
            simp only [eqFlat] at he
            split at he
            · rename_i a b ha hb
              split at he
              · rename_i hf
                split at he
                · rename_i r1 rs h1 h2
                  cases he
                  obtain ⟨la, ea⟩ := List.getElem?_eq_some_iff.1 ha
                  obtain ⟨lb, eb⟩ := List.getElem?_eq_some_iff.1 hb
                  have lva : f.offset < vs.toList.length := by have := hx.1; omega
                  have lub : f.offset < us.toList.length := by have := hy.1; omega
                  have ra := hx.2 f.offset lva la
                  have rb := hy.2 f.offset lub lb
                  rw [ea] at ra; rw [eb] at rb
                  have pa := run_part_scalar (P := P) (w := w) hu hs vs f.offset vs.toList[f.offset] (by simp)
                  have pb := run_part_scalar (P := P) (w := w) hu hs us f.offset us.toList[f.offset] (by simp)
                  have hq := eqD_run (n := n) hu hf ra rb h1
                  have ih := eqFlat_run hx hy n fs os' rs hr h2
                  simp only [Op.eqFields, ne_eq, hn, not_false_eq_true, if_true, Sem.run_bind, pa, pb, hq, Result.andThen_ok]
                  cases r1
                  · simp
                  · simpa using ih
                · cases he
              · cases he
            · cases he
        · simp [hu, hs] at hm

def evEq (P : Program) (h : Hp) (t : TypeId) (x y : V) : Option (Bool × List Nat) :=
  match x, y with
  | .d (.bool a), .d (.bool b) => match P.underlying t with
    | some .bool => some (a == b, [])
    | _ => none
  | .agg xs, .agg ys => match tflat P t, dsOf xs, dsOf ys with
    | some offs, some a, some b => (eqFlat a b offs).map (·, [])
    | _, _, _ => none
  | .d .nils, .d .nils => match telem P t with
    | some _ => some (true, [])
    | none => none
  | .sl id ver _ _, .d .nils | .d .nils, .sl id ver _ _ => match telem P t, rdBlk h id ver with
    | some _, some _ => some (false, [id])
    | _, _ => none
  | .d .nilp, .d .nilp => match P.underlying t with
    | some (.pointer _) => some (true, [])
    | _ => none
  | .ptr id ver _ _, .d .nilp | .d .nilp, .ptr id ver _ _ => match P.underlying t, rdBlk h id ver with
    | some (.pointer _), some _ => some (false, [id])
    | _, _ => none
  | _, _ => none

theorem eq_slices {t e : TypeId} (hu : P.underlying t = some (.slice e)) (d : Nat) (a b : Option Addr) (n c n' c' : Nat) (hab : a = none ∨ b = none) :
    (Op.equalIn (d + 1) t (.slice a n c) (.slice b n' c')).run P w = .ok (a.isNone && b.isNone) w := by
  cases a <;> cases b <;> simp [Op.equalIn, run_underlying hu] at hab ⊢
theorem eq_ptrs {t e : TypeId} (hu : P.underlying t = some (.pointer e)) (d : Nat) (a b : Option Addr) (hab : a = none ∨ b = none) :
    (Op.equalIn (d + 1) t (.pointer a) (.pointer b)).run P w = .ok (a.isNone && b.isNone) w := by
  cases a <;> cases b <;> simp [Op.equalIn, run_underlying hu] at hab ⊢
theorem bin_slices {t e : TypeId} (hu : P.underlying t = some (.slice e)) (a b : Option Addr) (n c n' c' : Nat) (hab : a = none ∨ b = none) (ox oy : Operand) (op : BinOp) :
    (eqGuard op t ox oy (.slice a n c) (.slice b n' c')).run P w = .ok () w ∧ (binOp .eql t (.slice a n c) (.slice b n' c')).run P w = .ok (.bool (a.isNone && b.isNone)) w ∧ (binOp .neq t (.slice a n c) (.slice b n' c')).run P w = .ok (.bool (!(a.isNone && b.isNone))) w := by
  have h1 : (Op.equal t (.slice a n c) (.slice b n' c')).run P w = .ok (a.isNone && b.isNone) w := eq_slices hu 9999 a b n c n' c' hab
  refine ⟨by simp [eqGuard], ?_, ?_⟩
  · simp only [binOp]
    rw [Sem.run_bind, h1]; rfl
  · simp only [binOp]
    rw [Sem.run_bind, h1]; rfl
theorem bin_ptrs {t e : TypeId} (hu : P.underlying t = some (.pointer e)) (a b : Option Addr) (hab : a = none ∨ b = none) (ox oy : Operand) (op : BinOp) :
    (eqGuard op t ox oy (.pointer a) (.pointer b)).run P w = .ok () w ∧ (binOp .eql t (.pointer a) (.pointer b)).run P w = .ok (.bool (a.isNone && b.isNone)) w ∧ (binOp .neq t (.pointer a) (.pointer b)).run P w = .ok (.bool (!(a.isNone && b.isNone))) w := by
  have h1 : (Op.equal t (.pointer a) (.pointer b)).run P w = .ok (a.isNone && b.isNone) w := eq_ptrs hu 9999 a b hab
  refine ⟨by simp [eqGuard], ?_, ?_⟩
  · simp only [binOp]
    rw [Sem.run_bind, h1]; rfl
  · simp only [binOp]
    rw [Sem.run_bind, h1]; rfl

theorem evEq_sound {t : TypeId} {cx cy : Value} {x y : V} (hx : RV w S h m nx cx x) (hy : RV w S h m nx cy y) {r : Bool} {rd : List Nat} (he : evEq P h t x y = some (r, rd)) (ox oy : Operand) (op : BinOp) :
    (eqGuard op t ox oy cx cy).run P w = .ok () w ∧ (binOp .eql t cx cy).run P w = .ok (.bool r) w ∧ (binOp .neq t cx cy).run P w = .ok (.bool (!r)) w := by
  unfold evEq at he
  split at he
  · rename_i a b
    have e1 : cx = .bool a := by cases hx with | d _ _ hd => cases hd; rfl
    have e2 : cy = .bool b := by cases hy with | d _ _ hd => cases hd; rfl
    subst e1; subst e2
    split at he
    · rename_i hu
      cases he
      exact ⟨by simp [eqGuard], run_eql_bool w t a b hu, run_neq_bool w t a b hu⟩
    · cases he
  · rename_i xs ys
    split at he
    · rename_i offs a b hof ha hb
      cases hq : eqFlat a b offs with
      | none => simp [hq] at he
      | some r' =>
        simp [hq] at he
        obtain ⟨rfl, _⟩ := he
        cases hx with
        | agg vs _ hl hr =>
          cases hy with
          | agg us _ hl' hr' =>
            have d1 := dsOf_rv xs a vs ha ⟨hl, hr⟩
            have d2 := dsOf_rv ys b us hb ⟨hl', hr'⟩
            unfold tflat at hof
            split at hof
            · rename_i fs hu
              split at hof
              · rename_i hc
                have hfo : P.fieldsOf t = fs := by simp [Program.fieldsOf, hu]
                have hu' : P.underlying t = some (.struct (P.fieldsOf t)) := by rw [hfo]; exact hu
                have hrun := eqFlat_run (P := P) (vs := vs.toArray) (us := us.toArray) (by simpa using d1) (by simpa using d2) 9998 fs.toList offs r' hof hq
                have heq := run_equalIn_struct (P := P) w 9999 t vs.toArray us.toArray hu' hc.1
                rw [hfo] at heq
                refine ⟨run_eqGuard_agg w op t ox oy _ _ hc.2, ?_, ?_⟩
                · rw [run_eql_struct, heq, hrun]; rfl
                · rw [run_neq_struct, heq, hrun]; rfl
              · cases hof
            · cases hof
    · cases he
  · have e1 : cx = .slice none 0 0 := by cases hx with | d _ _ hd => cases hd; rfl
    have e2 : cy = .slice none 0 0 := by cases hy with | d _ _ hd => cases hd; rfl
    subst e1; subst e2
    split at he
    · rename_i p hte
      obtain ⟨hu, _⟩ := telem_some (e := p.1) (s := p.2.1) (b := p.2.2) hte
      cases he
      exact bin_slices hu none none _ _ _ _ (.inl rfl) ox oy op
    · cases he
  · split at he
    · rename_i p B hte hB
      obtain ⟨hB, hver'⟩ := rdBlk_some hB
      obtain ⟨hu, _⟩ := telem_some (e := p.1) (s := p.2.1) (b := p.2.2) hte
      cases he
      have e2 : cy = .slice none 0 0 := by cases hy with | d _ _ hd => cases hd; rfl
      subst e2
      cases hx with
      | sl _ _ _ _ _ hlt hver hv =>
        obtain ⟨_, rfl⟩ := hv B hB hver'
        exact bin_slices hu (some _) none _ _ _ _ (.inr rfl) ox oy op
    · cases he
  · split at he
    · rename_i p B hte hB
      obtain ⟨hB, hver'⟩ := rdBlk_some hB
      obtain ⟨hu, _⟩ := telem_some (e := p.1) (s := p.2.1) (b := p.2.2) hte
      cases he
      have e2 : cx = .slice none 0 0 := by cases hx with | d _ _ hd => cases hd; rfl
      subst e2
      cases hy with
      | sl _ _ _ _ _ hlt hver hv =>
        obtain ⟨_, rfl⟩ := hv B hB hver'
        exact bin_slices hu none (some _) _ _ _ _ (.inl rfl) ox oy op
    · cases he
  · have e1 : cx = .pointer none := by cases hx with | d _ _ hd => cases hd; rfl
    have e2 : cy = .pointer none := by cases hy with | d _ _ hd => cases hd; rfl
    subst e1; subst e2
    split at he
    · rename_i el hu
      cases he
      exact bin_ptrs hu none none (.inl rfl) ox oy op
    · cases he
  · split at he
    · rename_i el B hu hB
      obtain ⟨hB, hver'⟩ := rdBlk_some hB
      cases he
      have e2 : cy = .pointer none := by cases hy with | d _ _ hd => cases hd; rfl
      subst e2
      cases hx with
      | ptr _ _ _ _ _ hlt hver hv =>
        obtain ⟨_, rfl⟩ := hv B hB hver'
        exact bin_ptrs hu (some _) none (.inr rfl) ox oy op
    · cases he
  · split at he
    · rename_i el B hu hB
      obtain ⟨hB, hver'⟩ := rdBlk_some hB
      cases he
      have e2 : cx = .pointer none := by cases hx with | d _ _ hd => cases hd; rfl
      subst e2
      cases hy with
      | ptr _ _ _ _ _ hlt hver hv =>
        obtain ⟨_, rfl⟩ := hv B hB hver'
        exact bin_ptrs hu none (some _) (.inl rfl) ox oy op
    · cases he
  · cases he

end
end Go.Proofs.YtepahgbgijmipaaEv
