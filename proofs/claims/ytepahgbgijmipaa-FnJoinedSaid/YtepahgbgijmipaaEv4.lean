/- A logic over abstract states for walks, fourth part: addresses, slices, arithmetic. -/
import Derived.Test.YtepahgbgijmipaaEv3
namespace Go.Proofs.YtepahgbgijmipaaEv
open Go Go.RowKit
section
variable {P : Program} {w : World} {S : Nat → Prop} {h : Hp} {m : Nat → Nat × Nat} {nx : Nat → Prop}

theorem live_ptr {id ver i o : Nat} (hl : live h (.ptr id ver i o) = true) : ∃ B, h id = some B ∧ B.ver = ver := by
  simp only [live] at hl
  split at hl
  · rename_i B hB; exact ⟨B, hB, by simpa using hl⟩
  · cases hl

/-- An address moved within its element. -/
def evOff (h : Hp) (x : V) (off : Nat) : Option (V × List Nat) :=
  match x with
  | .ptr id ver i o => if live h (.ptr id ver i o) then some (.ptr id ver i (o + off), [id]) else none
  | .ip cs o => some (.ip cs (o + off), [])
  | _ => none
theorem evOff_sound {cx : Value} {x : V} (hx : RV w S h m nx cx x) {off : Nat} {v : V} {rd : List Nat} (he : evOff h x off = some (v, rd)) :
    ∃ b o, cx = .pointer (some ⟨b, o, none⟩) ∧ RV w S h m nx (.pointer (some ⟨b, o + off, none⟩)) v := by
  cases hx with
  | ptr cv id ver i o hlt hver hv =>
    simp only [evOff] at he
    split at he
    · rename_i hl
      cases he
      obtain ⟨B, hB, hb⟩ := live_ptr hl
      obtain ⟨h1, rfl⟩ := hv B hB hb
      refine ⟨_, _, rfl, .ptr _ id ver i (o + off) hlt hver fun B' hB' hv' => ?_⟩
      rw [hB] at hB'; cases hB'
      exact ⟨h1, by rw [Nat.add_assoc]⟩
    · cases he
  | ip b off' o cs cells hS hl hc hr =>
    simp only [evOff, Option.some.injEq, Prod.mk.injEq] at he
    obtain ⟨rfl, rfl⟩ := he
    refine ⟨b, off' + o, rfl, ?_⟩
    rw [Nat.add_assoc]
    exact .ip b off' (o + off) cs cells hS hl hc hr
  | _ => simp [evOff] at he

def evFieldAddr (P : Program) (h : Hp) (t : TypeId) (x : V) (f : Nat) : Option (V × List Nat) :=
  match tfield P t f with
  | some (off, _, _) => evOff h x off
  | none => none
theorem evFieldAddr_sound {t f : Nat} {cx : Value} {x : V} (hx : RV w S h m nx cx x) {v : V} {rd : List Nat} (he : evFieldAddr P h t x f = some (v, rd)) :
    ∃ cv, (Instr.fieldAt t cx f).run P w = .ok cv w ∧ RV w S h m nx cv v := by
  unfold evFieldAddr at he
  split at he
  · rename_i off n a hf
    obtain ⟨b, o, rfl, hv⟩ := evOff_sound hx he
    refine ⟨_, ?_, hv⟩
    unfold tfield at hf
    split at hf
    · rename_i fs hu
      split at hf
      · rename_i fl hfl
        split at hf
        · rename_i n' a' ht
          split at hf
          · cases hf
          · rename_i hn
            simp at hf
            obtain ⟨rfl, rfl, rfl⟩ := hf
            simp [Instr.fieldAt, run_underlying hu, hfl, Instr.sureAddr, fieldPlace, run_sizeOf ht, hn, addr_add]
        · cases hf
      · cases hf
    · cases hf
  · cases he

def evIndexAddr (P : Program) (h : Hp) (t : TypeId) (x i : V) : Option (V × List Nat) :=
  match i with
  | .d (.int _ n) =>
    match telem P t, tarr P t with
    | some (_, s, _), _ =>
      match x with
      | .d (.ls s' es) => if s' = s ∧ 0 ≤ n then (es[n.toNat]?).map fun e => (.ip e 0, []) else none
      | .sl id ver off len =>
        match rdBlk h id ver with
        | some B => if B.s = s ∧ 0 ≤ n ∧ n < len then some (.ptr id ver (off + n.toNat) 0, [id]) else none
        | none => none
      | _ => none
    | none, some (len, s, _) => if 0 ≤ n ∧ n < len then evOff h x (n.toNat * s) else none
    | none, none => none
  | _ => none

theorem telem_some {t e s b : Nat} (ht : telem P t = some (e, s, b)) : P.underlying t = some (.slice e) ∧ ∃ i, P.info? e = some i ∧ i.size = s ∧ i.bytes = b := by
  unfold telem at ht
  split at ht
  · rename_i e' hu
    split at ht
    · rename_i i hi
      simp at ht
      obtain ⟨rfl, rfl, rfl⟩ := ht
      exact ⟨hu, i, hi, rfl, rfl⟩
    · cases ht
  · cases ht
theorem tarr_some {t n s : Nat} {a : Bool} (ht : tarr P t = some (n, s, a)) : ∃ e, P.underlying t = some (.array n e) ∧ tsz P e = some (s, a) := by
  unfold tarr at ht
  split at ht
  · rename_i n' e hu
    split at ht
    · rename_i s' a' hs
      simp at ht
      obtain ⟨rfl, rfl, rfl⟩ := ht
      exact ⟨e, hu, hs⟩
    · cases ht
  · cases ht
theorem run_size_info {e s : Nat} {i : TypeInfo} (hi : P.info? e = some i) (hs : i.size = s) : (sizeOf e).run P w = .ok s w := by simp [sizeOf, typeInfo, hi, hs]

/-- The cells of an element of a slice that is read by value. -/
theorem RD.elem {b off cap s : Nat} {es : List (List D)} {cells : List Value} (hs : ∀ e ∈ es, e.length = s) (hl : cells.length = es.flatten.length)
    (hc : ∀ (j : Nat) (h : j < cells.length), w.cell? ⟨b, off + j, none⟩ = some cells[j])
    (hr : ∀ (j : Nat) (h : j < cells.length) (h' : j < es.flatten.length), RD w S cells[j] es.flatten[j]) {i : Nat} {e : List D} (he : es[i]? = some e) :
    ∃ cs : List Value, cs.length = e.length ∧ (∀ (j : Nat) (h : j < cs.length), w.cell? ⟨b, off + i * s + j, none⟩ = some cs[j]) ∧
      (∀ (j : Nat) (h1 : j < cs.length) (h2 : j < e.length), RD w S cs[j] e[j]) := by
  have hi := (List.getElem?_eq_some_iff.1 he).1
  have hes : e.length = s := hs e (List.mem_of_getElem? he)
  have hfl := flatten_len s es hs
  have hbound : i * s + s ≤ es.flatten.length := by
    rw [hfl]
    have := Nat.mul_le_mul_right s (show i + 1 ≤ es.length from hi)
    rw [Nat.add_mul] at this; omega
  refine ⟨(cells.drop (i * s)).take s, by simp; omega, fun j hj => ?_, fun j h1 h2 => ?_⟩
  · have hj' : j < s := by simp at hj; omega
    have := hc (i * s + j) (by omega)
    rw [Nat.add_assoc, this]
    simp
  · have hj' : j < s := by omega
    have hfa := flatten_at s es hs i j hj'
    rw [he, Option.bind_some, List.getElem?_eq_getElem h2, List.getElem?_eq_getElem (by omega)] at hfa
    have h3 := hr (i * s + j) (by omega) (by omega)
    rw [Option.some.inj hfa] at h3
    simpa using h3

theorem evIndexAddr_sound {t : TypeId} {cx ci : Value} {x i : V} (hx : RV w S h m nx cx x) (hi : RV w S h m nx ci i) {v : V} {rd : List Nat} (he : evIndexAddr P h t x i = some (v, rd)) :
    ∃ cv, (Instr.indexAt t cx ci).run P w = .ok cv w ∧ RV w S h m nx cv v := by
  unfold evIndexAddr at he
  split at he
  · rename_i k n
    have hci : ci = .int k n := by cases hi with | d _ _ hd => cases hd; rfl
    subst hci
    split at he
    · rename_i e s b q htel
      obtain ⟨hu, inf, hinf, hsz, _⟩ := telem_some htel
      split at he
      · rename_i s' es
        split at he
        · rename_i hc
          obtain ⟨rfl, hn⟩ := hc
          cases hes : es[n.toNat]? with
          | none => simp [hes] at he
          | some el =>
            simp only [hes, Option.map_some, Option.some.injEq, Prod.mk.injEq] at he
            obtain ⟨rfl, rfl⟩ := he
            cases hx with
            | d _ _ hd =>
              cases hd with
              | ls0 => simp at hes
              | ls b off cap _ _ cells hS hcap hs hl hcc hr =>
                obtain ⟨cs, h1, h2, h3⟩ := RD.elem (cap := cap) hs hl hcc hr hes
                have hlt := (List.getElem?_eq_some_iff.1 hes).1
                refine ⟨.pointer (some ⟨b, off + n.toNat * s', none⟩), ?_, RV.ip b (off + n.toNat * s') 0 el cs hS h1 h2 h3⟩
                have hin : 0 ≤ n ∧ n < es.length := ⟨hn, by omega⟩
                simp [Instr.indexAt, asIntOf, run_underlying hu, hin, run_size_info hinf hsz, addr_add]
        · cases he
      · rename_i id ver off len
        split at he
        · rename_i B hB
          obtain ⟨hB, hver'⟩ := rdBlk_some hB
          split at he
          · rename_i hc
            obtain ⟨hs, hn, hlt⟩ := hc
            simp only [Option.some.injEq, Prod.mk.injEq] at he
            obtain ⟨rfl, rfl⟩ := he
            cases hx with
            | sl _ _ _ _ _ hlt' hver hv =>
              obtain ⟨hle, rfl⟩ := hv B hB hver'
              refine ⟨.pointer (some ⟨(m id).1, off * B.s + n.toNat * B.s, none⟩), ?_, .ptr _ id ver _ 0 hlt' hver fun B' hB' _ => ?_⟩
              · have hin : 0 ≤ n ∧ n < (len : Int) := ⟨hn, hlt⟩
                simp [Instr.indexAt, asIntOf, run_underlying hu, hin, run_size_info hinf hsz, addr_add, hs]
              · rw [hB] at hB'; cases hB'
                exact ⟨by omega, by rw [Nat.add_mul]; simp⟩
          · cases he
        · cases he
      · cases he
    · rename_i len s a _ htarr
      obtain ⟨e, hu, hsz⟩ := tarr_some htarr
      split at he
      · rename_i hn
        obtain ⟨b, o, rfl, hv⟩ := evOff_sound hx he
        refine ⟨_, ?_, hv⟩
        simp [Instr.indexAt, asIntOf, run_underlying hu, Instr.sureAddr, hn, run_sizeOf hsz, addr_add]
      · cases he
    · cases he
  · cases he

/-- An element of a string or an array value. -/
def evIndex (P : Program) (t : TypeId) (x i : V) : Option V :=
  match i with
  | .d (.int _ n) =>
    match x with
    | .d (.str s) =>
      match P.underlying t with
      | some .string => if 0 ≤ n then (s.data[n.toNat]?).map fun b => .d (.int .u8 b.toNat) else none
      | _ => none
    | .agg cs =>
      match tarr P t with
      | some (len, s, a) => if 0 ≤ n ∧ n < len then (if a then some (.agg ((cs.drop (n.toNat * s)).take s)) else cs[n.toNat * s]?) else none
      | none => none
    | _ => none
  | _ => none

theorem run_part {t n : Nat} {a : Bool} (ht : tsz P t = some (n, a)) (vs : List Value) (off : Nat) :
    (a = true → (part t vs.toArray off).run P w = .ok (.agg ((vs.drop off).take n).toArray) w) ∧ (a = false → ∀ v, vs[off]? = some v → (part t vs.toArray off).run P w = .ok v w) := by
  constructor
  · intro ha
    simp [part, run_isAgg ht, ha, run_sizeOf ht]
    try omega
  · intro ha v hv
    simp [part, run_isAgg ht, ha, hv]

theorem agg_part {vs : List Value} {cs : List V} (hl : vs.length = cs.length) (hr : ∀ (j : Nat) (h1 : j < vs.length) (h2 : j < cs.length), RV w S h m nx vs[j] cs[j]) (off n : Nat) :
    RV w S h m nx (.agg ((vs.drop off).take n).toArray) (.agg ((cs.drop off).take n)) :=
  .agg _ _ (by simp; omega) (fun j h1 h2 => by
    simp at h1 h2
    simpa using hr (off + j) (by omega) (by omega))

theorem evIndex_sound {t : TypeId} {cx ci : Value} {x i : V} (hx : RV w S h m nx cx x) (hi : RV w S h m nx ci i) {v : V} (he : evIndex P t x i = some v) :
    ∃ cv, (Instr.index t cx ci).run P w = .ok cv w ∧ RV w S h m nx cv v := by
  unfold evIndex at he
  split at he
  · rename_i k n
    have hci : ci = .int k n := by cases hi with | d _ _ hd => cases hd; rfl
    subst hci
    split at he
    · rename_i s
      have hcx : cx = .string s := by cases hx with | d _ _ hd => cases hd; rfl
      subst hcx
      split at he
      · rename_i hu
        split at he
        · rename_i hn
          cases hb : s.data[n.toNat]? with
          | none => simp [hb] at he
          | some b =>
            simp only [hb, Option.map_some, Option.some.injEq] at he
            subst he
            refine ⟨.int .u8 b.toNat, ?_, .d _ _ (.int _ _)⟩
            obtain ⟨hlt, hb'⟩ := Array.getElem?_eq_some_iff.1 hb
            have hg : s[n.toNat]? = some b := by
              have : n.toNat < s.size := hlt
              simp [this]
              exact hb'
            simp [Instr.index, asIntOf, run_underlying hu, hn, hg]
        · cases he
      · cases he
    · rename_i cs
      split at he
      · rename_i len s a htarr
        obtain ⟨e, hu, hsz⟩ := tarr_some htarr
        split at he
        · rename_i hn
          cases hx with
          | agg vs _ hl hr =>
            have hp := run_part (P := P) (w := w) hsz vs (n.toNat * s)
            split at he
            · rename_i ha
              cases he
              exact ⟨_, by simp [Instr.index, asIntOf, run_underlying hu, hn, run_sizeOf hsz, hp.1 ha], agg_part hl hr _ _⟩
            · rename_i ha
              simp at ha
              have hlt := (List.getElem?_eq_some_iff.1 he).1
              have hv : vs[n.toNat * s]? = some vs[n.toNat * s] := List.getElem?_eq_getElem (by omega)
              refine ⟨vs[n.toNat * s], by simp [Instr.index, asIntOf, run_underlying hu, hn, run_sizeOf hsz, hp.2 ha _ hv], ?_⟩
              have := hr (n.toNat * s) (by omega) hlt
              rw [(List.getElem?_eq_some_iff.1 he).2] at this
              exact this
        · cases he
      · cases he
    · cases he
  · cases he

def evField (P : Program) (t : TypeId) (x : V) (f : Nat) : Option V :=
  match x, tfield P t f with
  | .agg cs, some (off, n, a) => if a then some (.agg ((cs.drop off).take n)) else cs[off]?
  | _, _ => none
theorem tfield_some {t f off n : Nat} {a : Bool} (hf : tfield P t f = some (off, n, a)) : ∃ fs fl, P.underlying t = some (.struct fs) ∧ fs[f]? = some fl ∧ fl.offset = off ∧ tsz P fl.type = some (n, a) := by
  unfold tfield at hf
  split at hf
  · rename_i fs hu
    split at hf
    · rename_i fl hfl
      split at hf
      · rename_i n' a' ht
        split at hf
        · cases hf
        · simp at hf
          obtain ⟨rfl, rfl, rfl⟩ := hf
          exact ⟨fs, fl, hu, hfl, rfl, ht⟩
      · cases hf
    · cases hf
  · cases hf
theorem evField_sound {t f : Nat} {cx : Value} {x : V} (hx : RV w S h m nx cx x) {v : V} (he : evField P t x f = some v) :
    ∃ cv, (Instr.field t cx f).run P w = .ok cv w ∧ RV w S h m nx cv v := by
  unfold evField at he
  split at he
  · rename_i cs off n a hf
    obtain ⟨fs, fl, hu, hfl, ho, ht⟩ := tfield_some hf
    cases hx with
    | agg vs _ hl hr =>
      have hp := run_part (P := P) (w := w) ht vs off
      split at he
      · rename_i ha
        cases he
        exact ⟨_, by simp [Instr.field, run_underlying hu, hfl, asAgg, ho, hp.1 ha], agg_part hl hr _ _⟩
      · rename_i ha
        simp at ha
        have hlt := (List.getElem?_eq_some_iff.1 he).1
        have hv : vs[off]? = some vs[off] := List.getElem?_eq_getElem (by omega)
        refine ⟨vs[off], by simp [Instr.field, run_underlying hu, hfl, asAgg, ho, hp.2 ha _ hv], ?_⟩
        have := hr off (by omega) hlt
        rw [(List.getElem?_eq_some_iff.1 he).2] at this
        exact this
  · cases he

/-! ### Arithmetic and comparisons -/
def evInt (op : BinOp) (k : IntKind) (a : Int) (k' : IntKind) (b : Int) : Option D :=
  match op with
  | .shl => if b < 0 then none else some (.int k (k.wrap (a * 2 ^ min b.toNat k.bits)))
  | .shr => if b < 0 then none else some (.int k (a.fdiv (2 ^ min b.toNat k.bits)))
  | op =>
    if k = k' then
      match op with
      | .add => some (.int k (k.wrap (a + b)))
      | .sub => some (.int k (k.wrap (a - b)))
      | .mul => some (.int k (k.wrap (a * b)))
      | .quo => if b = 0 then none else some (.int k (k.wrap (a.tdiv b)))
      | .rem => if b = 0 then none else some (.int k (a.tmod b))
      | .and => some (.int k (k.wrap (BitVec.ofInt k.bits a &&& BitVec.ofInt k.bits b).toNat))
      | .or => some (.int k (k.wrap (BitVec.ofInt k.bits a ||| BitVec.ofInt k.bits b).toNat))
      | .xor => some (.int k (k.wrap (BitVec.ofInt k.bits a ^^^ BitVec.ofInt k.bits b).toNat))
      | .andNot => some (.int k (k.wrap (BitVec.ofInt k.bits a &&& ~~~BitVec.ofInt k.bits b).toNat))
      | .eql => some (.bool (a == b))
      | .neq => some (.bool (a != b))
      | .lss => some (.bool (decide (a < b)))
      | .leq => some (.bool (decide (a ≤ b)))
      | .gtr => some (.bool (decide (a > b)))
      | .geq => some (.bool (decide (a ≥ b)))
      | _ => none
    else none
theorem evInt_sound {op : BinOp} {k k' : IntKind} {a b : Int} {d : D} (he : evInt op k a k' b = some d) (t : TypeId) :
    ∃ cv, (binOp op t (.int k a) (.int k' b)).run P w = .ok cv w ∧ RD w S cv d := by
  unfold evInt at he
  cases op <;> simp only at he
  all_goals first | (cases he; done) | skip
  all_goals split at he <;> first | (cases he; done) | skip
  all_goals first | (split at he <;> first | (cases he; done) | skip) | skip
  all_goals simp only [Option.some.injEq] at he
  all_goals subst he
  all_goals simp [binOp, Op.shift, Op.intArith, Op.intDiv, Op.intBits, Op.intCmp, *]
  all_goals first | exact .int _ _ | exact .bool _

def evStr (op : BinOp) (a b : ByteArray) : Option D :=
  match op with
  | .add => if a.size + b.size ≤ 4611686018427387904 then some (.str (a ++ b)) else none
  | .eql => some (.bool (a.toList == b.toList))
  | .neq => some (.bool (!(a.toList == b.toList)))
  | .lss => some (.bool (Op.bytesLess a.toList b.toList))
  | .leq => some (.bool (Op.bytesLess a.toList b.toList || a.toList == b.toList))
  | .gtr => some (.bool (!(Op.bytesLess a.toList b.toList || a.toList == b.toList)))
  | .geq => some (.bool (!Op.bytesLess a.toList b.toList))
  | _ => none
theorem evStr_sound {op : BinOp} {a b : ByteArray} {d : D} (he : evStr op a b = some d) (t : TypeId) :
    ∃ cv, (binOp op t (.string a) (.string b)).run P w = .ok cv w ∧ RD w S cv d := by
  unfold evStr at he
  cases op <;> simp only at he
  all_goals first | (cases he; done) | skip
  all_goals first | (split at he <;> first | (cases he; done) | skip) | skip
  all_goals simp only [Option.some.injEq] at he
  all_goals subst he
  case add.isTrue hs =>
    have : ¬ ((a.size : Int) + (b.size : Int) > 9223372036854775807) := by omega
    simp [binOp, Op.stringOp, IntKind.max, IntKind.signed, IntKind.bits, this]
    exact .str _
  all_goals simp [binOp, Op.stringOp]
  all_goals exact .bool _

end
end Go.Proofs.YtepahgbgijmipaaEv
