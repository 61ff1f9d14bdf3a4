/- A logic over abstract states for walks, tenth part: one operation, whatever its kind. -/
import Derived.Test.YtepahgbgijmipaaEv9
namespace Go.Proofs.YtepahgbgijmipaaEv
open Go Go.RowKit

def Hp.upds (h : Hp) (wr : List (Nat × Blk)) : Hp := wr.foldl (fun h p => h.upd p.1 p.2) h

abbrev Out := V × List Nat × List (Nat × Blk)
def rd2 (r : Option (V × List Nat)) : Option Out := r.map fun p => (p.1, p.2, [])
def rd1 (r : Option V) : Option Out := r.map fun v => (v, [], [])
def wr2 (r : Option (V × List (Nat × Blk))) : Option Out := r.map fun p => (p.1, [], p.2)

def evBin (P : Program) (h : Hp) (op : BinOp) (t : TypeId) (x y : V) : Option (V × List Nat) :=
  match x, y with
  | .d (.int k a), .d (.int k' b) => (evInt op k a k' b).map fun d => (.d d, [])
  | .d (.str a), .d (.str b) => (evStr op a b).map fun d => (.d d, [])
  | x, y =>
    match op with
    | .eql => (evEq P h t x y).map fun p => (.d (.bool p.1), p.2)
    | .neq => (evEq P h t x y).map fun p => (.d (.bool (!p.1)), p.2)
    | _ => none

def evBuiltin (P : Program) (h : Hp) (id : Nat) (b : Builtin) (ts : List TypeId) (xs : List V) : Option Out :=
  match b, ts, xs with
  | .len, [t], [x] => rd2 (evLen P h t x)
  | .append, [t, tx], [d, x] => evAppend P h id t tx d x
  | .copy, [t, tx], [d, x] => evCopy P h t tx d x
  | .max, _, [.d (.int k a), .d (.int _ b)] => some (.d (.int k (if b > a then b else a)), [], [])
  | .min, _, [.d (.int k a), .d (.int _ b)] => some (.d (.int k (if b < a then b else a)), [], [])
  | _, _, _ => none

/-- What an operation that calls no function comes to: its value, the blocks that it looks at, the blocks that it turns. -/
def evOp (P : Program) (ρ : Operand → V) (h : Hp) (id : Nat) : Op → Option Out
  | .move x | .assign x => some (ρ x, [], [])
  | .pick c a b => match ρ c with
    | .d (.bool t) => some (if t then ρ a else ρ b, [], [])
    | _ => none
  | .alloc t => match tzero P t with
    | some z => if z.all (·.oneCell') = true then wr2 (some (evBox t id (z.map ofCell))) else none
    | none => none
  | .box t x => match cellsV h (ρ x) with
    | some cs => some ((evBox t id cs).1, cs.flatMap refs, (evBox t id cs).2)
    | none => none
  | .build t parts => (evBuild P h t (parts.toList.map fun p => (p.1, ρ p.2))).map fun v => (v, parts.toList.flatMap (fun p => (cellsV h (ρ p.2)).getD [] |>.flatMap refs), [])
  | .buildSlice t len parts => (evBuildSlice P h id t len (parts.toList.map fun p => (p.1, ρ p.2))).map fun r => (r.1, parts.toList.flatMap (fun p => (cellsV h (ρ p.2)).getD [] |>.flatMap refs), r.2)
  | .load t a => rd2 (evLoad P h t (ρ a))
  | .store t a x => (evStore P h t (ρ a) (ρ x)).map fun r => (.any, r.1, r.2)
  | .nilCheck x => match ρ x with
    | .ip cs o => some (.ip cs o, [], [])
    | .ptr id ver i o => if live h (.ptr id ver i o) then some (.ptr id ver i o, [id], []) else none
    | .fn f cs => some (.fn f cs, [], [])
    | .d (.fn f) => some (.d (.fn f), [], [])
    | _ => none
  | .binOp op t x y _ => rd2 (evBin P h op t (ρ x) (ρ y))
  | .unOp op _ x => rd1 (evUn op (ρ x))
  | .convert src dst x => rd2 (evConvert P h src dst (ρ x))
  | .makeFunc (.func f) first captured => if first.toList = [] then some (if captured.toList = [] then .d (.fn f) else .fn f (captured.toList.map ρ), [], []) else none
  | .makeSlice t l c => wr2 (evMake P id t (ρ l) (ρ c))
  | .slice t x lo hi none => rd2 (evSlice P h t (ρ x) (lo.map ρ) (hi.map ρ))
  | .fieldAddr t x f => rd2 (evFieldAddr P h t (ρ x) f)
  | .field t x f => rd1 (evField P t (ρ x) f)
  | .indexAddr t x i => rd2 (evIndexAddr P h t (ρ x) (ρ i))
  | .index t x i => rd1 (evIndex P t (ρ x) (ρ i))
  | .extract x i => match ρ x with
    | .tup vs => (vs[i]?).map fun v => (v, [], [])
    | _ => none
  | .call { callee := .builtin b, args, argTypes } => evBuiltin P h id b argTypes.toList (args.toList.map ρ)
  | _ => none

section
variable {P : Program} {w : World} {S : Nat → Prop} {h : Hp} {m : Nat → Nat × Nat} {nx nx' : Nat → Prop}

theorem Yld.mk1 {r : Result Next} {v : V} {i : Nat} {B : Blk} {cv : Value} {w' : World} {m' : Nat → Nat × Nat} (hr : r = .ok (.value cv) w') (e : Ext w S h m nx w' S (h.upd i B) m' nx') (H : HR w' S (h.upd i B) m' nx') (hv : RV w' S (h.upd i B) m' nx' cv v) :
    Yld r w S h m nx v (h.upds [(i, B)]) nx' := ⟨cv, w', S, m', .inl hr, e, H, hv⟩

theorem exec_v {o : Oper} {ρc : Operand → Value} {s : Sem Value} (he : execOp ρc o = (do pure (.value (← s)))) {cv : Value} {w' : World} (hs : s.run P w = .ok cv w') : (execOp ρc o).run P w = .ok (.value cv) w' := by
  rw [he]; simp [hs]

theorem rd2_some {r : Option (V × List Nat)} {v : V} {rd : List Nat} {wr : List (Nat × Blk)} (he : rd2 r = some (v, rd, wr)) : r = some (v, rd) ∧ wr = [] := by
  unfold rd2 at he
  cases r with
  | none => cases he
  | some p => simp at he; obtain ⟨rfl, rfl, rfl⟩ := he; exact ⟨rfl, rfl⟩
theorem rd1_some {r : Option V} {v : V} {rd : List Nat} {wr : List (Nat × Blk)} (he : rd1 r = some (v, rd, wr)) : r = some v ∧ wr = [] := by
  unfold rd1 at he
  cases r with
  | none => cases he
  | some p => simp at he; obtain ⟨rfl, rfl, rfl⟩ := he; exact ⟨rfl, rfl⟩
theorem wr2_some {r : Option (V × List (Nat × Blk))} {v : V} {rd : List Nat} {wr : List (Nat × Blk)} (he : wr2 r = some (v, rd, wr)) : r = some (v, wr) := by
  unfold wr2 at he
  cases r with
  | none => cases he
  | some p => simp at he; obtain ⟨rfl, rfl, rfl⟩ := he; rfl

theorem evBin_sound {op : BinOp} {t : TypeId} {cx cy : Value} {x y : V} (hx : RV w S h m nx cx x) (hy : RV w S h m nx cy y) {v : V} {rd : List Nat} (he : evBin P h op t x y = some (v, rd)) (ox oy : Operand) :
    (eqGuard op t ox oy cx cy).run P w = .ok () w ∧ ∃ cv, (binOp op t cx cy).run P w = .ok cv w ∧ RV w S h m nx cv v := by
  unfold evBin at he
  split at he
  · rename_i k a k' b
    have e1 : cx = .int k a := by cases hx with | d _ _ hd => cases hd; rfl
    have e2 : cy = .int k' b := by cases hy with | d _ _ hd => cases hd; rfl
    subst e1; subst e2
    cases hq : evInt op k a k' b with
    | none => simp [hq] at he
    | some d =>
      simp [hq] at he
      obtain ⟨rfl, _⟩ := he
      obtain ⟨cv, h1, h2⟩ := evInt_sound (P := P) (w := w) (S := S) hq t
      exact ⟨by simp [eqGuard], cv, h1, .d _ _ h2⟩
  · rename_i a b
    have e1 : cx = .string a := by cases hx with | d _ _ hd => cases hd; rfl
    have e2 : cy = .string b := by cases hy with | d _ _ hd => cases hd; rfl
    subst e1; subst e2
    cases hq : evStr op a b with
    | none => simp [hq] at he
    | some d =>
      simp [hq] at he
      obtain ⟨rfl, _⟩ := he
      obtain ⟨cv, h1, h2⟩ := evStr_sound (P := P) (w := w) (S := S) hq t
      exact ⟨by simp [eqGuard], cv, h1, .d _ _ h2⟩
  · split at he
    · cases hq : evEq P h t x y with
      | none => simp [hq] at he
      | some p =>
        simp [hq] at he
        obtain ⟨rfl, _⟩ := he
        obtain ⟨h1, h2, h3⟩ := evEq_sound hx hy (r := p.1) (rd := p.2) hq ox oy .eql
        exact ⟨h1, _, h2, .d _ _ (.bool _)⟩
    · cases hq : evEq P h t x y with
      | none => simp [hq] at he
      | some p =>
        simp [hq] at he
        obtain ⟨rfl, _⟩ := he
        obtain ⟨h1, h2, h3⟩ := evEq_sound hx hy (r := p.1) (rd := p.2) hq ox oy .neq
        exact ⟨h1, _, h3, .d _ _ (.bool _)⟩
    · cases he

theorem parts_rel {ρ : Operand → V} {ρc : Operand → Value} (hρ : ∀ x, RV w S h m nx (ρc x) (ρ x)) (ps : List (Nat × Operand)) :
    All2 (fun (a : Nat × Value) (b : Nat × V) => a.1 = b.1 ∧ RV w S h m nx a.2 b.2) (ps.map fun p => (p.1, ρc p.2)) (ps.map fun p => (p.1, ρ p.2)) :=
  ⟨by simp, fun j h1 h2 => by simp; exact hρ _⟩

theorem bnd_rel {ρ : Operand → V} {ρc : Operand → Value} (hρ : ∀ x, RV w S h m nx (ρc x) (ρ x)) (o : Option Operand) : BndRel w S h m nx (o.map ρc) (o.map ρ) := by
  cases o with
  | none => trivial
  | some x => exact hρ x

theorem rv_bool {c : Value} {b : Bool} (hx : RV w S h m nx c (.d (.bool b))) : c = .bool b := by cases hx with | d _ _ hd => cases hd; rfl
theorem rv_int {c : Value} {k : IntKind} {n : Int} (hx : RV w S h m nx c (.d (.int k n))) : c = .int k n := by cases hx with | d _ _ hd => cases hd; rfl
theorem rv_ip {c : Value} {cs : List D} {o : Nat} (hx : RV w S h m nx c (.ip cs o)) : ∃ a, c = .pointer (some a) := by cases hx; exact ⟨_, rfl⟩
theorem rv_ptr {c : Value} {id ver i o : Nat} (hx : RV w S h m nx c (.ptr id ver i o)) {B : Blk} (hB : h id = some B) (hb : B.ver = ver) : ∃ a, c = .pointer (some a) := by
  cases hx with | ptr _ _ _ _ _ hlt hver hv => exact ⟨_, (hv B hB hb).2⟩
theorem rv_fn {c : Value} {f : FuncId} {cs : List V} (hx : RV w S h m nx c (.fn f cs)) : ∃ vs : List Value, c = .func (.func f) #[] vs.toArray ∧ All2 (RV w S h m nx) vs cs := by
  cases hx with | fn _ vs _ hl hr => exact ⟨vs, rfl, hl, hr⟩
theorem rv_dfn {c : Value} {f : FuncId} (hx : RV w S h m nx c (.d (.fn f))) : c = .func (.func f) #[] #[] := by cases hx with | d _ _ hd => cases hd; rfl
theorem rv_tup {c : Value} {cs : List V} (hx : RV w S h m nx c (.tup cs)) : ∃ vs : List Value, c = .tuple vs.toArray ∧ All2 (RV w S h m nx) vs cs := by
  cases hx with | tup vs _ hl hr => exact ⟨vs, rfl, hl, hr⟩

theorem evBuildSlice_wr {id t len : Nat} {parts : List (Nat × V)} {v : V} {wr : List (Nat × Blk)} (hb : evBuildSlice P h id t len parts = some (v, wr)) : ∃ i B, wr = [(i, B)] := by
  unfold evBuildSlice at hb
  split at hb
  · split at hb
    · split at hb
      · generalize fillE h _ _ parts = f at hb
        cases f with
        | none => cases hb
        | some es => simp only [Option.map_some, Option.some.injEq, Prod.mk.injEq] at hb; exact ⟨_, _, hb.2.symm⟩
      · cases hb
    · cases hb
  · cases hb
theorem evBuildSlice_id {id t len : Nat} {parts : List (Nat × V)} {v : V} {i : Nat} {B : Blk} (hb : evBuildSlice P h id t len parts = some (v, [(i, B)])) : i = id := by
  unfold evBuildSlice at hb
  split at hb
  · split at hb
    · split at hb
      · generalize fillE h _ _ parts = f at hb
        cases f with
        | none => cases hb
        | some es => simp only [Option.map_some, Option.some.injEq, Prod.mk.injEq, List.cons.injEq, and_true] at hb; exact hb.2.1.symm
      · cases hb
    · cases hb
  · cases hb
theorem evMake_id {id t : Nat} {l c : V} {v : V} {i : Nat} {B : Blk} (he : evMake P id t l c = some (v, [(i, B)])) : i = id := by
  unfold evMake at he
  split at he
  · split at he
    · split at he
      · simp only [Option.some.injEq, Prod.mk.injEq, List.cons.injEq, and_true] at he; exact he.2.1.symm
      · cases he
    · cases he
  · cases he
theorem evStore_wr {t : TypeId} {x v : V} {rd : List Nat} {wr : List (Nat × Blk)} (hs : evStore P h t x v = some (rd, wr)) : ∃ i B, wr = [(i, B)] := by
  unfold evStore at hs
  split at hs
  · split at hs
    · split at hs
      · split at hs
        · simp only [Option.some.injEq, Prod.mk.injEq] at hs; exact ⟨_, _, hs.2.symm⟩
        · cases hs
      · cases hs
    · cases hs
  · cases hs
theorem evMake_wr {id t : Nat} {l c : V} {v : V} {wr : List (Nat × Blk)} (he : evMake P id t l c = some (v, wr)) : ∃ i B, wr = [(i, B)] := by
  unfold evMake at he
  split at he
  · split at he
    · split at he
      · simp only [Option.some.injEq, Prod.mk.injEq] at he; exact ⟨_, _, he.2.symm⟩
      · cases he
    · cases he
  · cases he

theorem evBuiltin_sound (H : HR w S h m nx) (id : Nat) (hid : ¬ nx id) (hn : ∀ i, nx i → nx' i) {b : Builtin} {ts : List TypeId} {cxs : List Value} {xs : List V} (hx : All2 (RV w S h m nx) cxs xs) {ty : TypeId} {consts : Array Bool} {v : V} {rd : List Nat} {wr : List (Nat × Blk)}
    (he : evBuiltin P h id b ts xs = some (v, rd, wr)) (hid' : wr.any (fun p => p.1 == id) = true → nx' id) : Yld ((builtin b ts.toArray ty consts cxs.toArray).run P w) w S h m nx v (h.upds wr) nx' := by
  unfold evBuiltin at he
  split at he
  · rename_i t x
    obtain ⟨he', rfl⟩ := rd2_some he
    match cxs, hx with
    | [c], hx =>
      have h0 := hx.2 0 (by simp) (by simp)
      simp at h0
      obtain ⟨cv, h1, h2⟩ := evLen_sound (P := P) (ty := ty) h0 he'
      exact .pure (cv := cv) (by simp [builtin, h1]) H hn h2
    | [], hx => simp [All2] at hx
    | _ :: _ :: _, hx => simp [All2] at hx
  · rename_i t tx d x
    match cxs, hx with
    | [c, c'], hx =>
      have h0 := hx.2 0 (by simp) (by simp)
      have h1 := hx.2 1 (by simp) (by simp)
      simp at h0 h1
      rcases evAppend_sound (P := P) (ty := ty) H id nx' hid hn h0 h1 he hid' with ⟨rfl, cv, h2, h3⟩ | ⟨i, B, cv, w', m', rfl, _, h2, h3, h4, h5⟩
      · exact .pure (cv := cv) (by simp [builtin, h2]) H hn h3
      · exact .mk1 (by simp [builtin, h2]) h3 h4 h5
    | [], hx => simp [All2] at hx
    | [_], hx => simp [All2] at hx
    | _ :: _ :: _ :: _, hx => simp [All2] at hx
  · rename_i t tx d x
    match cxs, hx with
    | [c, c'], hx =>
      have h0 := hx.2 0 (by simp) (by simp)
      have h1 := hx.2 1 (by simp) (by simp)
      simp at h0 h1
      obtain ⟨i, B, cv, w', rfl, _, h2, h3, h4, h5⟩ := evCopy_sound (P := P) (ty := ty) H h0 h1 he
      exact .mk1 (by simp [builtin, h2]) (h3.trans (Ext.bump hn)) (h4.bump hn) (h5.ext (Ext.bump hn) h4)
    | [], hx => simp [All2] at hx
    | [_], hx => simp [All2] at hx
    | _ :: _ :: _ :: _, hx => simp [All2] at hx
  · rename_i k a k' b'
    match cxs, hx with
    | [c, c'], hx =>
      have h0 := hx.2 0 (by simp) (by simp)
      have h1 := hx.2 1 (by simp) (by simp)
      simp at h0 h1
      have e1 := rv_int h0
      have e2 := rv_int h1
      subst e1; subst e2
      cases he
      exact .pure (cv := .int k (if b' > a then b' else a)) (by simp [builtin, Builtin.max_, Builtin.max2]) H hn (.d _ _ (.int _ _))
    | [], hx => simp [All2] at hx
    | [_], hx => simp [All2] at hx
    | _ :: _ :: _ :: _, hx => simp [All2] at hx
  · rename_i k a k' b'
    match cxs, hx with
    | [c, c'], hx =>
      have h0 := hx.2 0 (by simp) (by simp)
      have h1 := hx.2 1 (by simp) (by simp)
      simp at h0 h1
      have e1 := rv_int h0
      have e2 := rv_int h1
      subst e1; subst e2
      cases he
      exact .pure (cv := .int k (if b' < a then b' else a)) (by simp [builtin, Builtin.min_, Builtin.min2]) H hn (.d _ _ (.int _ _))
    | [], hx => simp [All2] at hx
    | [_], hx => simp [All2] at hx
    | _ :: _ :: _ :: _, hx => simp [All2] at hx
  · cases he

set_option maxHeartbeats 1000000 in
theorem evOp_sound (H : HR w S h m nx) (id : Nat) (hid : ¬ nx id) (hn : ∀ i, nx i → nx' i) {ρ : Operand → V} {ρc : Operand → Value} (hρ : ∀ x, RV w S h m nx (ρc x) (ρ x)) (o : Oper) {v : V} {rd : List Nat} {wr : List (Nat × Blk)}
    (he : evOp P ρ h id o.op = some (v, rd, wr)) (hid' : wr.any (fun p => p.1 == id) = true → nx' id) : Yld ((execOp ρc o).run P w) w S h m nx v (h.upds wr) nx' := by
  obtain ⟨dst, op, type, pos, after, guard⟩ := o
  simp only at he
  cases op with
  | move x => cases he; exact .pure rfl H hn (hρ x)
  | assign x => cases he; exact .pure rfl H hn (hρ x)
  | pick c a b =>
    simp only [evOp] at he
    split at he
    · rename_i t hc
      cases he
      have hcc := hρ c
      rw [hc] at hcc
      have e1 := rv_bool hcc
      refine .pure (cv := if t then ρc a else ρc b) (by simp [execOp, e1, asBool]) H hn ?_
      cases t
      · exact hρ b
      · exact hρ a
    · cases he
  | alloc t =>
    simp only [evOp] at he
    split at he
    · rename_i z hz
      split at he
      · rename_i hone
        have he := wr2_some he
        simp only [evBox, Option.some.injEq, Prod.mk.injEq] at he
        obtain ⟨rfl, rfl⟩ := he
        obtain ⟨i, zv, hi, hzv, rfl⟩ := tzero_some hz
        rw [List.all_eq_true] at hone
        obtain ⟨w', m', h1, h2, h3, h4⟩ := evBox_sound (P := P) H t id nx' hn hid (hid' (by simp)) (cells := zv.cells) (zero_rv _) hone
        refine .mk1 ?_ h2 h3 h4
        have : (Instr.alloc t true (.tuple #[])).run P w = .ok (.pointer (some ⟨w.heap.size, 0, none⟩)) w' := by
          simp [Instr.alloc, zeroValue, typeInfo, hi, hzv, newVar, h1]
        exact exec_v (s := Instr.alloc t true (.tuple #[])) rfl this
      · cases he
    · cases he
  | box t x =>
    simp only [evOp] at he
    split at he
    · rename_i cs hcs
      simp only [evBox, Option.some.injEq, Prod.mk.injEq] at he
      obtain ⟨rfl, rfl, rfl⟩ := he
      obtain ⟨c1, c2, c3⟩ := cellsV_rv (hρ x) hcs
      obtain ⟨w', m', h1, h2, h3, h4⟩ := evBox_sound (P := P) H t id nx' hn hid (hid' (by simp)) (cells := (ρc x).cells) ⟨c1, c2⟩ c3
      refine .mk1 ?_ h2 h3 h4
      have : (Instr.box t (ρc x)).run P w = .ok (.pointer (some ⟨w.heap.size, 0, none⟩)) w' := by
        simp [Instr.box, newVar, h1]
      exact exec_v (s := Instr.box t (ρc x)) rfl this
    · cases he
  | build t parts =>
    simp only [evOp] at he
    cases hb : evBuild P h t (parts.toList.map fun p => (p.1, ρ p.2)) with
    | none => simp [hb] at he
    | some v' =>
      simp only [hb, Option.map_some, Option.some.injEq, Prod.mk.injEq] at he
      obtain ⟨rfl, _, rfl⟩ := he
      obtain ⟨cv, h1, h2⟩ := evBuild_sound (P := P) (parts_rel hρ parts.toList) hb
      refine .pure (cv := cv) ?_ H hn h2
      have e : (parts.toList.map fun p => (p.1, ρc p.2)).toArray = parts.map fun (i, x) => (i, ρc x) := by
        apply Array.ext'; simp
      rw [e] at h1
      exact exec_v (s := Instr.build t (parts.map fun (i, x) => (i, ρc x))) rfl h1
  | buildSlice t len parts =>
    simp only [evOp] at he
    cases hb : evBuildSlice P h id t len (parts.toList.map fun p => (p.1, ρ p.2)) with
    | none => simp [hb] at he
    | some r =>
      obtain ⟨v', wr'⟩ := r
      simp only [hb, Option.map_some, Option.some.injEq, Prod.mk.injEq] at he
      obtain ⟨rfl, _, rfl⟩ := he
      have hwr := evBuildSlice_wr hb
      obtain ⟨i, B, rfl⟩ := hwr
      obtain ⟨rfl, cv, w', m', h1, h2, h3, h4⟩ := evBuildSlice_sound H id nx' hn hid (hid' (by
        have := evBuildSlice_id hb
        simp [this])) (parts_rel hρ parts.toList) hb
      refine .mk1 ?_ h2 h3 h4
      have e : (parts.toList.map fun p => (p.1, ρc p.2)).toArray = parts.map fun (i, x) => (i, ρc x) := by
        apply Array.ext'; simp
      rw [e] at h1
      exact exec_v (s := Instr.buildSlice t len (parts.map fun (i, x) => (i, ρc x))) rfl h1
  | load t a =>
    obtain ⟨he', rfl⟩ := rd2_some he
    obtain ⟨cv, h1, h2⟩ := evLoad_sound H (hρ a) he'
    exact .pure (exec_v (s := Instr.loadAt t (ρc a)) rfl h1) H hn h2
  | store t a x =>
    simp only [evOp] at he
    cases hs : evStore P h t (ρ a) (ρ x) with
    | none => simp [hs] at he
    | some r =>
      obtain ⟨rd', wr'⟩ := r
      simp only [hs, Option.map_some, Option.some.injEq, Prod.mk.injEq] at he
      obtain ⟨rfl, _, rfl⟩ := he
      have hwr := evStore_wr hs
      obtain ⟨i, B, rfl⟩ := hwr
      obtain ⟨w', h1, h2, h3⟩ := evStore_sound H (hρ a) (hρ x) hs
      refine ⟨undef, w', S, m, .inr ⟨?_, rfl⟩, h2.trans (Ext.bump hn), h3.bump hn, .any _⟩
      simp [execOp, h1]
  | nilCheck x =>
    simp only [evOp] at he
    have hx := hρ x
    split at he
    · rename_i cs o hc
      cases he
      rw [hc] at hx
      refine .pure (cv := ρc x) ?_ H hn hx
      obtain ⟨a, hcx⟩ := rv_ip hx
      simp [execOp, hcx]
    · rename_i i ver j o hc
      split at he
      · rename_i hl
        cases he
        rw [hc] at hx
        obtain ⟨B, hB, hb⟩ := live_ptr hl
        refine .pure (cv := ρc x) ?_ H hn hx
        obtain ⟨a, hcx⟩ := rv_ptr hx hB hb
        simp [execOp, hcx]
      · cases he
    · rename_i f cs hc
      cases he
      rw [hc] at hx
      refine .pure (cv := ρc x) ?_ H hn hx
      obtain ⟨vs, hcx, _⟩ := rv_fn hx
      simp [execOp, hcx]
    · rename_i f hc
      cases he
      rw [hc] at hx
      refine .pure (cv := ρc x) ?_ H hn hx
      simp [execOp, rv_dfn hx]
    · cases he
  | binOp op t x y ty =>
    obtain ⟨he', rfl⟩ := rd2_some he
    obtain ⟨hg, cv, h1, h2⟩ := evBin_sound (hρ x) (hρ y) he' x y
    refine .pure (cv := cv) ?_ H hn h2
    simp [execOp, hg, h1]
  | unOp op t x =>
    obtain ⟨he', rfl⟩ := rd1_some he
    obtain ⟨cv, h1, h2⟩ := evUn_sound (P := P) (hρ x) he'
    exact .pure (exec_v (s := Op.unary op (ρc x)) rfl h1) H hn h2
  | convert src dst x =>
    obtain ⟨he', rfl⟩ := rd2_some he
    obtain ⟨cv, h1, h2⟩ := evConvert_sound H (hρ x) he'
    exact .pure (exec_v (s := convert src dst (ρc x)) rfl h1) H hn h2
  | makeFunc fn first captured =>
    cases fn with
    | func f =>
      simp only [evOp] at he
      split at he
      · rename_i hf
        cases he
        have hf' : first = #[] := by apply Array.ext'; simpa using hf
        subst hf'
        refine .pure (cv := .func (.func f) #[] (captured.map ρc)) (by simp [execOp, Instr.makeFunc]) H hn ?_
        split
        · rename_i hc
          have hc' : captured = #[] := by apply Array.ext'; simpa using hc
          subst hc'
          simpa using RV.d (w := w) (S := S) (h := h) (m := m) (nx := nx) _ _ (RD.fn f)
        · have := RV.fn (w := w) (S := S) (h := h) (m := m) (nx := nx) f (captured.toList.map ρc) (captured.toList.map ρ) (by simp) (fun j h1 h2 => by simp; exact hρ _)
          have e : (captured.toList.map ρc).toArray = captured.map ρc := by apply Array.ext'; simp
          rw [e] at this
          exact this
      · cases he
    | _ => simp [evOp] at he
  | makeSlice t l c =>
    have he := wr2_some he
    have hwr := evMake_wr he
    obtain ⟨i, B, rfl⟩ := hwr
    obtain ⟨rfl, cv, w', m', h1, h2, h3, h4⟩ := evMake_sound H id nx' hn hid (hid' (by
      have := evMake_id he
      simp [this])) (hρ l) (hρ c) he
    exact .mk1 (exec_v (s := Instr.makeSlice t (ρc l) (ρc c)) rfl h1) h2 h3 h4
  | slice t x lo hi mx =>
    cases mx with
    | some _ => simp [evOp] at he
    | none =>
      obtain ⟨he', rfl⟩ := rd2_some he
      obtain ⟨cv, h1, h2⟩ := evSlice_sound H (hρ x) (bnd_rel hρ lo) (bnd_rel hρ hi) he'
      exact .pure (exec_v (s := Instr.sliceAt t (ρc x) (lo.map ρc) (hi.map ρc) none) rfl h1) H hn h2
  | fieldAddr t x f =>
    obtain ⟨he', rfl⟩ := rd2_some he
    obtain ⟨cv, h1, h2⟩ := evFieldAddr_sound (hρ x) he'
    exact .pure (exec_v (s := Instr.fieldAt t (ρc x) f) rfl h1) H hn h2
  | field t x f =>
    obtain ⟨he', rfl⟩ := rd1_some he
    obtain ⟨cv, h1, h2⟩ := evField_sound (P := P) (hρ x) he'
    exact .pure (exec_v (s := Instr.field t (ρc x) f) rfl h1) H hn h2
  | indexAddr t x i =>
    obtain ⟨he', rfl⟩ := rd2_some he
    obtain ⟨cv, h1, h2⟩ := evIndexAddr_sound (hρ x) (hρ i) he'
    exact .pure (exec_v (s := Instr.indexAt t (ρc x) (ρc i)) rfl h1) H hn h2
  | index t x i =>
    obtain ⟨he', rfl⟩ := rd1_some he
    obtain ⟨cv, h1, h2⟩ := evIndex_sound (P := P) (hρ x) (hρ i) he'
    exact .pure (exec_v (s := Instr.index t (ρc x) (ρc i)) rfl h1) H hn h2
  | extract x i =>
    simp only [evOp] at he
    have hx := hρ x
    split at he
    · rename_i vs hc
      rw [hc] at hx
      cases hv : vs[i]? with
      | none => simp [hv] at he
      | some v' =>
        simp only [hv, Option.map_some, Option.some.injEq, Prod.mk.injEq] at he
        obtain ⟨rfl, _, rfl⟩ := he
        obtain ⟨hlt, hv'⟩ := List.getElem?_eq_some_iff.1 hv
        obtain ⟨cs, hcx, hl, hr⟩ := rv_tup hx
        have hlt' : i < cs.length := by omega
        have hcv := hr i hlt' hlt
        rw [hv'] at hcv
        refine .pure (cv := cs[i]) ?_ H hn hcv
        refine exec_v (s := Instr.extract (ρc x) i) rfl ?_
        rw [hcx]
        simp [Instr.extract, hlt']
    · cases he
  | call c =>
    obtain ⟨callee, args, ats⟩ := c
    cases callee with
    | builtin b =>
      simp only [evOp] at he
      have hp : All2 (RV w S h m nx) (args.toList.map ρc) (args.toList.map ρ) := ⟨by simp, fun j h1 h2 => by simp; exact hρ _⟩
      have hb := evBuiltin_sound (P := P) (ty := type) (consts := args.map fun | .const _ => true | _ => false) H id hid hn hp he hid'
      have e : (args.toList.map ρc).toArray = args.map ρc := by apply Array.ext'; simp
      rw [e] at hb
      simp only [Array.toArray_toList] at hb
      have hx : (execOp ρc ⟨dst, .call ⟨.builtin b, args, ats⟩, type, pos, after, guard⟩).run P w = (builtin b ats type (args.map fun | .const _ => true | _ => false) (args.map ρc)).run P w := by
        simp only [execOp, resolve, Sem.run_bind, Sem.run_pure, Result.andThen_ok, invoke]
        rfl
      rw [hx]
      exact hb
    | _ => simp [evOp] at he
  | _ => simp [evOp] at he

end
end Go.Proofs.YtepahgbgijmipaaEv
