/- A logic over abstract states for walks, fifteenth part: regions that draw their order. -/
import Derived.Test.YtepahgbgijmipaaEv14
namespace Go.Proofs.YtepahgbgijmipaaEv
open Go Go.RowKit

theorem Hp.back_upds (h : Hp) : ∀ l : List (Nat × Blk), h.back l = h.upds l.reverse
  | [] => rfl
  | p :: r => by
    simp only [Hp.back, List.reverse_cons, Hp.upds, List.foldl_append, List.foldl_cons, List.foldl_nil]
    rw [Hp.back_upds h r]; rfl

/-- One operation, in a frame and a heap: its value, what it looks at, what it turns. -/
inductive AStep (P : Program) (id : Nat) (o : Oper) (fr : List V) (h : Hp) : V → List Nat → List (Nat × Blk) → Prop
  | op {v : V} {rd : List Nat} {wr : List (Nat × Blk)} (he : evOp P (evO fr) h id o.op = some (v, rd, wr)) : AStep P id o fr h v rd wr
  | call {v : V} {fo : Operand} {args : Array Operand} {ats : Array TypeId} (ho : o.op = .call { callee := .value fo, args := args, argTypes := ats })
      {g : FuncId} {caps : List V} (hf : calleeOf (evO fr fo) = some (g, caps)) (hen : enters P g = true) {args' : List V} {bx bx' : List Blk} {ids : List Nat} (hn : ids.Nodup) (hl : ids.length = bx.length)
      (hb : ∀ (j id : Nat), ids[j]? = some id → h id = bx[j]?) (hp : ∀ B ∈ bx, PureB B) (ha : All2 (Arg ids) (args.toList.map (evO fr) ++ caps) args')
      (hs : FnSpec P g args' bx fun r b => r = v ∧ b = bx') : AStep P id o fr h v ids (ids.zip bx').reverse
  | quiet {v : V} {fo : Operand} {args : Array Operand} {ats : Array TypeId} (ho : o.op = .call { callee := .value fo, args := args, argTypes := ats })
      {g : FuncId} {caps : List V} (hf : calleeOf (evO fr fo) = some (g, caps)) (hen : enters P g = true) {args' : List V} {bx : List Blk} {ids : List Nat} (hn : ids.Nodup) (hl : ids.length = bx.length)
      (hb : ∀ (j id : Nat), ids[j]? = some id → h id = bx[j]?) (hp : ∀ B ∈ bx, PureB B) (ha : All2 (Arg ids) (args.toList.map (evO fr) ++ caps) args')
      (hs : FnSpec P g args' bx fun r b => r = v ∧ b = bx) : AStep P id o fr h v ids []
  | read {v : V} {fo : Operand} {args : Array Operand} {ats : Array TypeId} (ho : o.op = .call { callee := .value fo, args := args, argTypes := ats })
      {g : FuncId} {caps : List V} (hf : calleeOf (evO fr fo) = some (g, caps)) (hen : enters P g = true) {args' : List V} {rd : List Nat} {n : Nat}
      (ha : ∀ h', Agree rd h h' → mapO (fz1 h' 0 n) (args.toList.map (evO fr) ++ caps) = some args') (hv : Flat v)
      (hs : FnSpec P g args' [] fun r _ => r = v) : AStep P id o fr h v rd []

section
variable {P : Program}

theorem upds_back_self {h : Hp} {ids : List Nat} {bx : List Blk} (hn : ids.Nodup) (hl : ids.length = bx.length) (hb : ∀ (j id : Nat), ids[j]? = some id → h id = bx[j]?) : h.back (ids.zip bx) = h := by
  funext j
  by_cases hj : j ∈ ids
  · obtain ⟨k, hk, rfl⟩ := List.mem_iff_getElem.1 hj
    have h1 : ids[k]? = some ids[k] := List.getElem?_eq_getElem hk
    have h2 : bx[k]? = some bx[k] := List.getElem?_eq_getElem (by omega)
    rw [Hp.back_at hn h1 h2, hb k _ h1, h2]
  · exact Hp.back_other (by rw [List.map_fst_zip (by omega)]; exact hj)

/-- One operation, wherever a walk stands. -/
theorem AStep.wp {id : Nat} {o : Oper} {fr : List V} {h : Hp} {v : V} {rd : List Nat} {wr : List (Nat × Blk)} (hs : AStep P id o fr h v rd wr) {E : Ent} {lo : Nat} {U : Nat → Prop} {a : Act} {w : World}
    (hr : RelU E lo fr h U a w) (hid : ¬ U id) {K : Act → World → Prop} {Q : Exit → Act → World → Prop} (hK : ∀ a' w', RelU E lo (put fr o.dst v) (h.upds wr) (fun i => U i ∨ (i = id ∧ wr.any (fun p => p.1 == id) = true)) a' w' → K a' w') : o.wp P a w K Q := by
  obtain ⟨hlo, S, m, e0, H, hl, hf, hd⟩ := hr
  have hsub : ∀ i, U i → U i ∨ (i = id ∧ wr.any (fun p => p.1 == id) = true) := fun i h => .inl h
  cases hs with
  | op he =>
    obtain ⟨cv, w', S', m', hrun, e, H', hv⟩ := evOp_sound (nx' := fun i => U i ∨ (i = id ∧ wr.any (fun p => p.1 == id) = true)) H id hid hsub (ρc := a.eval) (evO_rv hf) o he (fun h => .inr ⟨rfl, h⟩)
    have hr' := RelU.step hlo e0 H hl hf hd o.dst e H' hv
    unfold Oper.wp
    rcases hrun with hrun | ⟨hrun, rfl⟩
    · rw [hrun]; exact hK _ _ hr'
    · rw [hrun]; exact hK _ _ hr'
  | call ho hfo hen hn hl' hb hp ha hsp =>
    obtain ⟨vs, hrun, hvs⟩ := run_call (evO_rv hf) ho hfo hen
    unfold Oper.wp
    rw [hrun]
    refine (hsp.callU hn hl' hb hp ha w S m U vs H hvs).mono fun e w' ⟨v', r, bx2, S', h1, ⟨_, _, _, hr1, hr2⟩, h5, h6, h7⟩ => ?_
    subst h1; subst hr1; subst hr2
    rw [Hp.back_upds] at h5 h6 h7
    exact hK _ _ (RelU.step hlo e0 H hl hf hd o.dst (h5.trans (Ext.bump hsub)) (h6.bump hsub) (h7.ext (Ext.bump hsub) h6))
  | quiet ho hfo hen hn hl' hb hp ha hsp =>
    obtain ⟨vs, hrun, hvs⟩ := run_call (evO_rv hf) ho hfo hen
    unfold Oper.wp
    rw [hrun]
    refine (hsp.callU hn hl' hb hp ha w S m U vs H hvs).mono fun e w' ⟨v', r, bx2, S', h1, ⟨_, _, _, hr1, hr2⟩, h5, h6, h7⟩ => ?_
    subst h1; subst hr1; subst hr2
    rw [upds_back_self hn hl' hb] at h5 h6 h7
    exact hK _ _ (RelU.step hlo e0 H hl hf hd o.dst (h5.trans (Ext.bump hsub)) (h6.bump hsub) (h7.ext (Ext.bump hsub) h6))
  | read ho hfo hen ha hv hsp =>
    obtain ⟨vs, hrun, hvs⟩ := run_call (evO_rv hf) ho hfo hen
    unfold Oper.wp
    rw [hrun]
    refine (hsp.callReadU (ha h (fun _ _ => rfl)) (fun r hr => by subst hr; exact hv) w S m U vs H hvs).mono fun e w' ⟨v', r, h1, h2, h5, h6, h7⟩ => ?_
    subst h1; subst h2
    exact hK _ _ (RelU.step hlo e0 H hl hf hd o.dst (h5.trans (Ext.bump hsub)) (h6.bump hsub) (h7.ext (Ext.bump hsub) h6))

theorem evO_put {fr : List V} {dst : Option Tmp} {v : V} {x : Operand} (hx : ∀ d, dst = some d → x ≠ .tmp d) : evO (put fr dst v) x = evO fr x := by
  cases dst with
  | none => rfl
  | some d =>
    cases x with
    | tmp t =>
      have hne : d ≠ t := fun e => hx d rfl (e ▸ rfl)
      simp only [evO, put, List.getD_eq_getElem?_getD, List.getElem?_set_ne hne]
    | _ => rfl

theorem evOp_congr {ρ ρ' : Operand → V} {h : Hp} {id : Nat} {op : Op} (hρ : ∀ x ∈ op.operands, ρ' x = ρ x) : evOp P ρ' h id op = evOp P ρ h id op := by
  cases op <;> simp only [Op.operands] at hρ <;> simp only [evOp]
  case build t ps =>
    have e : ps.toList.map (fun p => (p.1, ρ' p.2)) = ps.toList.map (fun p => (p.1, ρ p.2)) := List.map_congr_left fun p hp => by rw [hρ p.2 (by simp; exact ⟨p.1, by simpa using hp⟩)]
    have e2 : (ps.toList.flatMap fun p => ((cellsV h (ρ' p.2)).getD []).flatMap refs) = ps.toList.flatMap fun p => ((cellsV h (ρ p.2)).getD []).flatMap refs := List.flatMap_congr_left' fun p hp => by rw [hρ p.2 (by simp; exact ⟨p.1, by simpa using hp⟩)]
    rw [e, e2]
  case buildSlice t n ps =>
    have e : ps.toList.map (fun p => (p.1, ρ' p.2)) = ps.toList.map (fun p => (p.1, ρ p.2)) := List.map_congr_left fun p hp => by rw [hρ p.2 (by simp; exact ⟨p.1, by simpa using hp⟩)]
    have e2 : (ps.toList.flatMap fun p => ((cellsV h (ρ' p.2)).getD []).flatMap refs) = ps.toList.flatMap fun p => ((cellsV h (ρ p.2)).getD []).flatMap refs := List.flatMap_congr_left' fun p hp => by rw [hρ p.2 (by simp; exact ⟨p.1, by simpa using hp⟩)]
    rw [e, e2]
  case makeFunc fn first captured =>
    cases fn <;> simp only [evOp]
    have e : captured.toList.map ρ' = captured.toList.map ρ := List.map_congr_left fun p hp => hρ p (by simp at hp ⊢; exact .inr hp)
    rw [e]
  case slice t x lo hi mx =>
    cases mx <;> cases lo <;> cases hi <;> simp_all [evOp]
  case call c =>
    obtain ⟨callee, args, ats⟩ := c
    cases callee <;> simp only [evOp]
    have e : args.toList.map ρ' = args.toList.map ρ := List.map_congr_left fun p hp => hρ p (by simp [Call.operands] at hp ⊢; exact hp)
    rw [e]
  all_goals (first | rfl | (simp_all; done))
where
  List.flatMap_congr_left' {α β : Type} {f g : α → List β} {l : List α} (h : ∀ x ∈ l, f x = g x) : l.flatMap f = l.flatMap g := by
    induction l with
    | nil => rfl
    | cons a l ih => simp only [List.flatMap_cons, h a (by simp), ih (fun x hx => h x (by simp [hx]))]


theorem AStep.local {id : Nat} {o : Oper} {fr : List V} {h h' : Hp} {v : V} {rd : List Nat} {wr : List (Nat × Blk)} (hs : AStep P id o fr h v rd wr) (ha : Agree rd h h') : AStep P id o fr h' v rd wr := by
  cases hs with
  | op he => exact .op (evOp_local he ha)
  | call ho hfo hen hn hl hb hp harg hsp => exact .call ho hfo hen hn hl (fun j i hj => by rw [ha i (List.mem_of_getElem? hj)]; exact hb j i hj) hp harg hsp
  | quiet ho hfo hen hn hl hb hp harg hsp => exact .quiet ho hfo hen hn hl (fun j i hj => by rw [ha i (List.mem_of_getElem? hj)]; exact hb j i hj) hp harg hsp
  | read ho hfo hen har hv hsp => exact .read ho hfo hen (fun h2 h3 => har h2 fun j hj => (h3 j hj).trans (ha j hj)) hv hsp

theorem AStep.frame {id : Nat} {o : Oper} {fr fr' : List V} {h : Hp} {v : V} {rd : List Nat} {wr : List (Nat × Blk)} (hs : AStep P id o fr h v rd wr) (he : ∀ x ∈ o.op.operands, evO fr' x = evO fr x) : AStep P id o fr' h v rd wr := by
  have callArgs : ∀ {fo : Operand} {args : Array Operand} {ats : Array TypeId}, o.op = .call { callee := .value fo, args := args, argTypes := ats } → evO fr' fo = evO fr fo ∧ args.toList.map (evO fr') = args.toList.map (evO fr) := fun {fo args ats} ho => by
    rw [ho] at he
    exact ⟨he fo (by simp [Op.operands, Call.operands]), List.map_congr_left fun p hp => he p (by simp [Op.operands, Call.operands] at hp ⊢; exact .inr hp)⟩
  cases hs with
  | op hev => exact .op (by rw [evOp_congr he]; exact hev)
  | call ho hfo hen hn hl hb hp harg hsp => obtain ⟨h1, h2⟩ := callArgs ho; exact .call ho (by rw [h1]; exact hfo) hen hn hl hb hp (by rw [h2]; exact harg) hsp
  | quiet ho hfo hen hn hl hb hp harg hsp => obtain ⟨h1, h2⟩ := callArgs ho; exact .quiet ho (by rw [h1]; exact hfo) hen hn hl hb hp (by rw [h2]; exact harg) hsp
  | read ho hfo hen har hv hsp => obtain ⟨h1, h2⟩ := callArgs ho; exact .read ho (by rw [h1]; exact hfo) hen (fun h' ha => by rw [h2]; exact har h' ha) hv hsp

/-! ### Any order -/
abbrev Entry := V × List Nat × List (Nat × Blk)
def Entry.ids (e : Entry) : List Nat := e.2.2.map (·.1)

/-- Whether a guarded operation is done, by the frame. -/
def wantedA (ops : Array Oper) (fr : List V) (o : Oper) : Option Bool :=
  match o.guard with
  | none => some true
  | some (j, want) => match (ops[j]?).bind (·.dst) with
    | some t => match fr[t]? with
      | some (.d (.bool b)) => some (b == want)
      | some (.tup []) => some false
      | _ => none
    | none => none

/-- Operation number i, as the log has it. -/
def AOp (P : Program) (ops : Array Oper) (base : Nat) (i : Nat) (fr : List V) (h : Hp) (e : Entry) : Prop :=
  ∃ o, ops[i]? = some o ∧ ((wantedA ops fr o = some true ∧ AStep P (base + i) o fr h e.1 e.2.1 e.2.2) ∨ (wantedA ops fr o = some false ∧ e = (.tup [], [], [])))

def dstOf (ops : Array Oper) (i : Nat) : Option Tmp := (ops[i]?).bind (·.dst)

def AnyA (P : Program) (md : Region.Mode) (ops : Array Oper) (base : Nat) (log : Nat → Entry) (K : List V → Hp → Prop) : Nat → Array Bool → List V → Hp → Prop
  | 0, listed, fr, h => Region.ready md ops listed = [] ∧ K fr h
  | fuel + 1, listed, fr, h =>
    (Region.ready md ops listed = [] → K fr h) ∧
    ∀ i ∈ Region.ready md ops listed, AOp P ops base i fr h (log i) ∧ AnyA P md ops base log K fuel (listed.setIfInBounds i true) (put fr (dstOf ops i) (log i).1) (h.upds (log i).2.2)

theorem wanted_wantedA {ops : Array Oper} {o : Oper} {E : Ent} {lo : Nat} {fr : List V} {h : Hp} {U : Nat → Prop} {a : Act} {w : World} (hr : RelU E lo fr h U a w) {b : Bool} (hb : wantedA ops fr o = some b) : Region.wanted o (yielded ops a.tmps) = b := by
  unfold wantedA at hb
  unfold Region.wanted
  cases hg : o.guard with
  | none => simp [hg] at hb; simp [hb]
  | some p =>
    obtain ⟨j, want⟩ := p
    simp only [hg] at hb
    cases hj : (ops[j]?).bind (·.dst) with
    | none => simp [hj] at hb
    | some t =>
      simp only [hj] at hb
      split at hb
      · rename_i c hc
        cases hb
        obtain ⟨hlo, S, m, e0, H, hl, hf, hd⟩ := hr
        obtain ⟨ht, hc'⟩ := List.getElem?_eq_some_iff.1 hc
        have := hf t ht
        rw [hc'] at this
        have hv := rv_bool this
        have hts : a.tmps[t]? = some (.bool c) := by
          rw [Array.getElem?_eq_getElem (by omega)]
          simp [Array.getD, hl, ht] at hv
          rw [hv]
        simp [yielded, hj, hts]
      · rename_i hc
        cases hb
        obtain ⟨hlo, S, m, e0, H, hl, hf, hd⟩ := hr
        obtain ⟨ht, hc'⟩ := List.getElem?_eq_some_iff.1 hc
        have := hf t ht
        rw [hc'] at this
        have hv := rv_undef this
        have hts : a.tmps[t]? = some undef := by
          rw [Array.getElem?_eq_getElem (by omega)]
          simp [Array.getD, hl, ht] at hv
          rw [hv]
        simp [yielded, hj, hts, undef]
      · cases hb

/-- The numbers that may have been given out when the region is through. -/
def Given (base n : Nat) (log : Nat → Entry) (k : Nat) : Prop := k < base ∨ ∃ j, j < n ∧ k = base + j ∧ (log j).2.2.any (fun p => p.1 == base + j) = true

theorem AnyA.sound {md : Region.Mode} {ops : Array Oper} {base : Nat} {log : Nat → Entry} {K : List V → Hp → Prop} {E : Ent} {lo : Nat} {Q : Exit → Act → World → Prop}
    (hQ : ∀ fr h U a w, (∀ i, U i → Given base ops.size log i) → K fr h → RelU E lo fr h U a w → Q .normal a w) : ∀ (fuel : Nat) (listed : Array Bool) (fr : List V) (h : Hp) (U : Nat → Prop) (a : Act) (w : World),
    AnyA P md ops base log K fuel listed fr h → RelU E lo fr h U a w → (∀ i, U i → Given base ops.size log i) → (∀ i, listed.getD i true = false → ¬ U (base + i)) → wpAny P md ops Q fuel listed a w
  | 0, _, fr, h, U, a, w, hA, hr, hU, _ => ⟨hA.1, hQ fr h U a w hU hA.2 hr⟩
  | fuel + 1, listed, fr, h, U, a, w, hA, hr, hU, hun => by
    refine ⟨fun h0 => hQ fr h U a w hU (hA.1 h0) hr, fun i hi => ?_⟩
    obtain ⟨⟨o, ho, hst⟩, hnext⟩ := hA.2 i hi
    have hunl := (mem_ready.1 hi).1
    have hilt : i < ops.size := (Array.getElem?_eq_some_iff.1 ho).1
    have hun' : ∀ (U' : Nat → Prop), (∀ k, U' k → U k ∨ k = base + i) → ∀ k, (listed.setIfInBounds i true).getD k true = false → ¬ U' (base + k) := fun U' hU' k hk hu => by
      by_cases hik : i = k
      · subst hik
        have : (listed.setIfInBounds i true).getD i true = true := by
          by_cases hs : i < listed.size
          · simp [hs]
          · simp [hs]
        rw [this] at hk; cases hk
      · rw [getD_set_ne true hik] at hk
        rcases hU' _ hu with h1 | h1
        · exact hun k hk h1
        · omega
    have hdst : dstOf ops i = o.dst := by simp [dstOf, ho]
    unfold wpOp
    simp only [ho]
    rcases hst with ⟨hw, hst⟩ | ⟨hw, he⟩
    · have hw' := wanted_wantedA hr hw
      rw [if_pos hw']
      refine .inl (hst.wp hr (hun i hunl) fun a' w' hr' => ?_)
      rw [hdst] at hnext
      exact AnyA.sound hQ fuel _ _ _ _ a' w' hnext hr' (fun k hk => by rcases hk with hk | ⟨hk, hk'⟩; exact hU k hk; exact .inr ⟨i, hilt, hk, hk'⟩) (hun' (fun k => U k ∨ (k = base + i ∧ (log i).2.2.any (fun p => p.1 == base + i) = true)) (by intro k hk; rcases hk with hk | ⟨hk, _⟩; exact .inl hk; exact .inr hk))
    · have hw' := wanted_wantedA hr hw
      rw [if_neg (by rw [hw']; simp)]
      rw [hdst, he] at hnext
      obtain ⟨hlo, S, m, e0, H, hl, hf, hd⟩ := hr
      exact AnyA.sound hQ fuel _ _ _ U _ w hnext (RelU.step hlo e0 H hl hf hd o.dst Ext.refl H rv_undef') hU (hun' U fun k hk => .inl hk)

/-- Two operations that may come in either order. -/
structure Compat (ops : Array Oper) (oi oj : Oper) (ei ej : Entry) : Prop where
  apart : oi.apart ops oj = true
  wr : ∀ k ∈ ei.ids, k ∉ ej.2.1 ∧ k ∉ ej.ids
  rw' : ∀ k ∈ ej.ids, k ∉ ei.2.1

theorem upds_other {h : Hp} : ∀ {wr : List (Nat × Blk)} {j : Nat}, j ∉ wr.map (·.1) → h.upds wr j = h j
  | [], _, _ => rfl
  | p :: r, j, hj => by
    simp only [List.map_cons, List.mem_cons, not_or] at hj
    have ih := upds_other (h := h.upd p.1 p.2) (wr := r) hj.2
    simp only [Hp.upds, List.foldl_cons] at ih ⊢
    rw [ih]
    simp [Hp.upd, hj.1]
theorem upds_in {h h' : Hp} : ∀ {wr : List (Nat × Blk)} {j : Nat}, j ∈ wr.map (·.1) → h.upds wr j = h'.upds wr j
  | [], _, hj => by simp at hj
  | p :: r, j, hj => by
    simp only [Hp.upds, List.foldl_cons]
    by_cases hr : j ∈ r.map (·.1)
    · exact upds_in (h := h.upd p.1 p.2) (h' := h'.upd p.1 p.2) hr
    · have h1 := upds_other (h := h.upd p.1 p.2) hr
      have h2 := upds_other (h := h'.upd p.1 p.2) hr
      simp only [Hp.upds] at h1 h2
      rw [h1, h2]
      simp only [List.map_cons, List.mem_cons] at hj
      rcases hj with rfl | hj
      · simp [Hp.upd]
      · exact absurd hj hr
theorem upds_comm {h : Hp} {a b : List (Nat × Blk)} (hab : ∀ k ∈ a.map (·.1), k ∉ b.map (·.1)) : (h.upds a).upds b = (h.upds b).upds a := by
  funext j
  by_cases ha : j ∈ a.map (·.1)
  · rw [upds_other (hab j ha), upds_in (h' := h.upds b) ha]
  · by_cases hb : j ∈ b.map (·.1)
    · rw [upds_other (wr := a) ha]
      exact upds_in hb
    · rw [upds_other hb, upds_other ha, upds_other ha, upds_other hb]

theorem put_comm {fr : List V} {x y : Option Tmp} {v u : V} (hxy : ∀ d, x = some d → y ≠ some d) : put (put fr x v) y u = put (put fr y u) x v := by
  cases x with
  | none => rfl
  | some d =>
    cases y with
    | none => rfl
    | some e =>
      have hne : d ≠ e := fun he => hxy d rfl (he ▸ rfl)
      simp only [put]
      exact List.set_comm _ _ hne

theorem looks_op {ops : Array Oper} {o : Oper} {d : Tmp} (h : d ∉ o.looksAt ops) : ∀ x ∈ o.op.operands, x ≠ .tmp d := fun x hx he => h (by
  subst he
  exact List.mem_append_left _ (List.mem_filterMap.2 ⟨.tmp d, by simpa using hx, rfl⟩))

theorem wantedA_put {ops : Array Oper} {o : Oper} {fr : List V} {dst : Option Tmp} {v : V} (h : ∀ d, dst = some d → d ∉ o.looksAt ops) : wantedA ops (put fr dst v) o = wantedA ops fr o := by
  unfold wantedA
  cases hg : o.guard with
  | none => rfl
  | some p =>
    obtain ⟨j, want⟩ := p
    simp only
    cases hj : (ops[j]?).bind (·.dst) with
    | none => rfl
    | some t =>
      simp only
      cases dst with
      | none => rfl
      | some d =>
        have hne : d ≠ t := fun e => h d rfl (by subst e; simp [Oper.looksAt, hg, hj])
        simp only [put, List.getElem?_set_ne hne]

theorem AOp.shift {ops : Array Oper} {base j : Nat} {fr : List V} {h : Hp} {ej : Entry} {oj : Oper} (hj : ops[j]? = some oj) {dst : Option Tmp} {v : V} {wr : List (Nat × Blk)} (hd : ∀ d, dst = some d → d ∉ oj.looksAt ops) (hw : ∀ k ∈ wr.map (·.1), k ∉ ej.2.1) :
    AOp P ops base j (put fr dst v) (h.upds wr) ej ↔ AOp P ops base j fr h ej := by
  have hag : Agree ej.2.1 h (h.upds wr) := fun k hk => upds_other fun hk' => hw k hk' hk
  have hag' : Agree ej.2.1 (h.upds wr) h := fun k hk => (upds_other fun hk' => hw k hk' hk).symm
  have hop : ∀ x ∈ oj.op.operands, evO (put fr dst v) x = evO fr x := fun x hx => evO_put fun d hd' => looks_op (hd d hd') x hx
  constructor
  · rintro ⟨o, ho, hst⟩
    have : o = oj := by rw [hj] at ho; exact (Option.some.inj ho).symm
    subst this
    refine ⟨o, ho, ?_⟩
    rw [wantedA_put hd] at hst
    exact hst.imp (fun ⟨h1, h2⟩ => ⟨h1, (h2.local hag').frame fun x hx => (hop x hx).symm⟩) id
  · rintro ⟨o, ho, hst⟩
    have : o = oj := by rw [hj] at ho; exact (Option.some.inj ho).symm
    subst this
    refine ⟨o, ho, ?_⟩
    rw [wantedA_put hd]
    exact hst.imp (fun ⟨h1, h2⟩ => ⟨h1, (h2.local hag).frame hop⟩) id

theorem AnyA.first {md : Region.Mode} {ops : Array Oper} {base : Nat} {log : Nat → Entry} {K : List V → Hp → Prop} {i : Nat} {oi : Oper} (hi : ops[i]? = some oi) :
    ∀ (fuel : Nat) (listed : Array Bool) (fr : List V) (h : Hp),
      (∀ j oj, ops[j]? = some oj → j ≠ i → listed.getD j true = false → (∀ e ∈ oj.after, Region.binds md e = true → e.on ≠ i) → Compat ops oi oj (log i) (log j)) →
      i ∈ Region.ready md ops listed → AOp P ops base i fr h (log i) →
      AnyA P md ops base log K fuel (listed.setIfInBounds i true) (put fr oi.dst (log i).1) (h.upds (log i).2.2) → AnyA P md ops base log K (fuel + 1) listed fr h := by
  have hdi : dstOf ops i = oi.dst := by simp [dstOf, hi]
  intro fuel
  induction fuel with
  | zero =>
    intro listed fr h _ hr hy H
    refine ⟨fun h => (by rw [h] at hr; cases hr), fun j hj => ?_⟩
    by_cases hji : j = i
    · subst hji; rw [hdi]; exact ⟨hy, H⟩
    · have := ready_mono hj hji
      rw [H.1] at this
      cases this
  | succ fuel ih =>
    intro listed fr h hfree hr hy H
    refine ⟨fun h => (by rw [h] at hr; cases hr), fun j hj => ?_⟩
    by_cases hji : j = i
    · subst hji; rw [hdi]; exact ⟨hy, H⟩
    · obtain ⟨h1, h2⟩ := H.2 j (ready_mono hj hji)
      obtain ⟨hjun, oj, hoj, hall⟩ := mem_ready.1 hj
      have hdj : dstOf ops j = oj.dst := by simp [dstOf, hoj]
      have hnot : ∀ e ∈ oj.after, Region.binds md e = true → e.on ≠ i := fun e he hb heq => by
        have h1 := hall e he hb
        have h0 := (mem_ready.1 hr).1
        rw [heq] at h1
        rcases Nat.lt_or_ge i listed.size with h' | h'
        · simp [h'] at h0 h1; rw [h0] at h1; cases h1
        · simp [Array.getElem?_eq_none h'] at h1
      have c := hfree j oj hoj hji hjun hnot
      obtain ⟨a1, a2, a3⟩ := Oper.apart_spec c.apart
      have hyj : AOp P ops base j fr h (log j) := (AOp.shift hoj a1 fun k hk => (c.wr k hk).1).1 h1
      have hyi : AOp P ops base i (put fr oj.dst (log j).1) (h.upds (log j).2.2) (log i) := (AOp.shift hi a3 fun k hk => c.rw' k hk).2 hy
      have hfree' : ∀ k ok, ops[k]? = some ok → k ≠ i → (listed.setIfInBounds j true).getD k true = false →
          (∀ e ∈ ok.after, Region.binds md e = true → e.on ≠ i) → Compat ops oi ok (log i) (log k) := fun k ok hk hki hun hno => by
        refine hfree k ok hk hki ?_ hno
        by_cases hjk : j = k
        · subst hjk; exact hjun
        · rw [getD_set_ne true hjk] at hun; exact hun
      rw [hdj] at h2 ⊢
      refine ⟨hyj, ih (listed.setIfInBounds j true) _ _ hfree' (ready_mono hr (Ne.symm hji)) hyi ?_⟩
      rw [Array.setIfInBounds_comm _ _ hji, put_comm (x := oj.dst) (fun d hd hd' => a2 d hd' hd), upds_comm (a := (log j).2.2) (fun k hk hk' => (c.wr k hk').2 hk)]
      exact h2

/-- The region's operations in the text's order. -/
inductive LexRun (P : Program) (ops : Array Oper) (base : Nat) : List Oper → Nat → List V → Hp → List Entry → List V → Hp → Prop
  | nil (k : Nat) (fr : List V) (h : Hp) : LexRun P ops base [] k fr h [] fr h
  | cons {o : Oper} {l : List Oper} {k : Nat} {fr fr' : List V} {h h' : Hp} {e : Entry} {L : List Entry}
      (hst : (wantedA ops fr o = some true ∧ AStep P (base + k) o fr h e.1 e.2.1 e.2.2) ∨ (wantedA ops fr o = some false ∧ e = (.tup [], [], [])))
      (hr : LexRun P ops base l (k + 1) (put fr o.dst e.1) (h.upds e.2.2) L fr' h') : LexRun P ops base (o :: l) k fr h (e :: L) fr' h'

/-- What the operations look at and what they turn, of each two of which neither waits for the other. -/
def fpB (ops : Array Oper) (F : List (List Nat × List Nat)) : Bool :=
  (List.range F.length).all fun j => (List.range j).all fun i =>
    (match ops[j]? with
      | some oj => oj.after.any fun e => Region.binds .any e && e.on == i
      | none => true) ||
    (match F[i]?, F[j]? with
      | some a, some b => a.2.all (fun k => !b.1.contains k && !b.2.contains k) && b.2.all (fun k => !a.1.contains k)
      | _, _ => true)
def foot (e : Entry) : List Nat × List Nat := (e.2.1, e.ids)

theorem LexRun.len {ops : Array Oper} {base : Nat} : ∀ {l : List Oper} {k : Nat} {fr fr' : List V} {h h' : Hp} {L : List Entry}, LexRun P ops base l k fr h L fr' h' → L.length = l.length := by
  intro l k fr fr' h h' L hr
  induction hr with
  | nil => rfl
  | cons _ _ ih => simp [ih]

theorem AnyA.lex {md : Region.Mode} {ops : Array Oper} {base : Nat} {log : Nat → Entry} {fr' : List V} {h' : Hp} {K : List V → Hp → Prop} (hK : K fr' h') {l : List Oper} {k : Nat} {fr : List V} {h : Hp} {L : List Entry} (hrun : LexRun P ops base l k fr h L fr' h') :
    ∀ (listed : Array Bool), (∀ j, l[j]? = ops[k + j]?) → Region.lexFrom md ops l.length k listed = true → (∀ j (hj : j < L.length), L[j] = log (k + j)) → (∀ j, j < k → listed.getD j true = true) →
    (∀ i j oi oj, i < j → ops[i]? = some oi → ops[j]? = some oj → (∀ e ∈ oj.after, Region.binds md e = true → e.on ≠ i) → oi.apart ops oj = true → Compat ops oi oj (log i) (log j)) →
    AnyA P md ops base log K l.length listed fr h := by
  induction hrun with
  | nil k fr h => exact fun listed _ hB _ _ _ => ⟨by simpa [Region.lexFrom] using hB, hK⟩
  | @cons o l k fr fr' h h' e L hst _ ih =>
    intro listed hl hB hlog hdone hfp
    have h0 : ops[k]? = some o := by simpa using (hl 0).symm
    simp only [List.length_cons, Region.lexFrom, Bool.and_eq_true] at hB
    obtain ⟨⟨hr, hf⟩, hB'⟩ := hB
    have he : e = log k := hlog 0 (by simp)
    have hop : AOp P ops base k fr h (log k) := ⟨o, h0, by rw [← he]; exact hst⟩
    refine AnyA.first h0 l.length listed fr h (fun j oj hj hne hun hno => ?_) (by simpa using hr) hop ?_
    · have hap := Region.free_spec h0 hf j oj hj hne hun hno
      have hkj : k < j := by
        rcases Nat.lt_or_ge j k with h1 | h1
        · rw [hdone j h1] at hun; cases hun
        · omega
      exact hfp k j o oj hkj h0 hj hno hap
    · rw [← he]
      refine ih hK _ (fun j => by have := hl (j + 1); simpa [Nat.add_assoc, Nat.add_comm 1 j] using this) hB' (fun j hj => ?_) (fun j hj => ?_) hfp
      · have := hlog (j + 1) (by simpa using hj)
        simpa [Nat.add_assoc, Nat.add_comm 1 j] using this
      · by_cases hkj : k = j
        · subst hkj
          by_cases hs : k < listed.size
          · simp [hs]
          · simp [hs]
        · rw [getD_set_ne true hkj]; exact hdone j (by omega)

/-- The next number behind the region. -/
def nxtD (base : Nat) (L : List Entry) : Nat := if (L.zipIdx).any (fun p => p.1.2.2.any fun q => q.1 == base + p.2) then base + L.length else base

/-- A region that draws its order: one walk in the text's order serves every order. -/
theorem Safe.regionD {i : Nat} {l : List Oper} {st : St} {Q : Ex → St → Prop} (hm : P.follows .mixedOrders = true) (hB : Region.lexB .any l.toArray = true) {L : List Entry} {fr' : List V} {h' : Hp}
    (hrun : LexRun P l.toArray st.nx l 0 st.fr st.h L fr' h') (hfp : fpB l.toArray (L.map foot) = true) (hQ : Q .normal ⟨fr', h', nxtD st.nx L, st.lo⟩) : Safe P (.region i l.toArray true) st Q := fun E a w hr => by
  have hlen := hrun.len
  simp only [Region.lexB, Bool.and_eq_true] at hB
  have hlog : ∀ j (hj : j < L.length), L[j] = (fun k => L.getD k (.any, [], [])) (0 + j) := fun j hj => by
    simp [List.getD_eq_getElem?_getD, List.getElem?_eq_getElem hj]
  have hany := AnyA.lex (md := .any) (log := fun k => L.getD k (.any, [], [])) (K := fun fr h => fr = fr' ∧ h = h') ⟨rfl, rfl⟩ hrun (Array.replicate l.toArray.size false) (fun j => by simp) (by simpa using hB.2) hlog (fun j hj => by omega)
    (fun i j oi oj hij hi hj hno hap => by
      have hjl : j < l.length := by have := (Array.getElem?_eq_some_iff.1 hj).1; simpa using this
      have hiL : i < L.length := by omega
      have hjL : j < L.length := by omega
      have e1 : L.getD i (.any, [], []) = L[i] := by simp [List.getD_eq_getElem?_getD, List.getElem?_eq_getElem hiL]
      have e2 : L.getD j (.any, [], []) = L[j] := by simp [List.getD_eq_getElem?_getD, List.getElem?_eq_getElem hjL]
      simp only [e1, e2]
      unfold fpB at hfp
      simp only [List.all_eq_true, List.mem_range, List.length_map] at hfp
      have := hfp j hjL i hij
      rw [hj, List.getElem?_map, List.getElem?_map, List.getElem?_eq_getElem hiL, List.getElem?_eq_getElem hjL] at this
      simp only [Option.map_some, Bool.or_eq_true] at this
      rcases this with h1 | h1
      · obtain ⟨e, he, hb⟩ := Array.any_eq_true'.1 h1
        simp only [Bool.and_eq_true, beq_iff_eq] at hb
        exact absurd hb.2 (hno e he hb.1)
      · simp only [foot, Bool.and_eq_true, List.all_eq_true, Bool.not_eq_true', List.contains_eq_mem, decide_eq_false_iff_not] at h1
        exact ⟨hap, fun k hk => h1.1 k hk, fun k hk => h1.2 k hk⟩)
  have hr' : RelU E st.lo st.fr st.h (low st.nx) a { w with drawn := w.drawn + 1 } := by
    obtain ⟨hlo, S, m, e0, H, hl, hf, hd⟩ := hr
    have e1 : Ext w S st.h m (low st.nx) { w with drawn := w.drawn + 1 } S st.h m (low st.nx) := ⟨rfl, rfl, rfl, Nat.le_refl _, fun _ h => h, fun _ h => h, fun _ h => .inl h, fun _ _ _ => rfl,
      fun _ B' _ h => ⟨B', h, Nat.le_refl _, fun _ => ⟨rfl, rfl, rfl⟩⟩, fun i B' h => .inl ⟨B', h, rfl⟩⟩
    refine ⟨hlo, S, m, e0.trans e1, ⟨H.st, H.inj, H.lt, fun i B hB => ?_⟩, hl, fun t ht => (hf t ht).ext e1 H, hd⟩
    obtain ⟨C, c1, c2, c3, c4, c5, c6, c7⟩ := H.blk i B hB
    exact ⟨C, c1, c2, c3, c4, c5, c6, fun j a b => (c7 j a b).ext e1 H⟩
  refine wp_region_any hm (AnyA.sound (Q := PostC E Q) (lo := st.lo) (fun fr h U a w hU hk hr2 => ?_) _ _ _ _ (low st.nx) a _ (by simpa using hany) hr' (fun k hk => .inl hk) (fun k _ hk => by
    have : st.nx + k < st.nx := hk
    omega))
  obtain ⟨rfl, rfl⟩ := hk
  refine ⟨_, hQ, ?_⟩
  obtain ⟨hlo, S, m, e0, H, hl, hf, hd⟩ := hr2
  have hsub : ∀ k, U k → low (nxtD st.nx L) k := fun k hk => by
    unfold nxtD
    rcases hU k hk with h1 | ⟨j, hj, rfl, hj'⟩
    · show k < _
      split <;> omega
    · have hjL : j < L.length := by simp at hj; omega
      simp only [List.getElem?_eq_getElem hjL, Option.getD_some] at hj'
      rw [if_pos (by
        rw [List.any_eq_true]
        exact ⟨(L[j], j), by rw [List.mem_zipIdx_iff_getElem?]; exact List.getElem?_eq_getElem hjL, hj'⟩)]
      show st.nx + j < st.nx + L.length
      omega
  exact ⟨hlo, S, m, e0.trans (Ext.bump hsub), H.bump hsub, hl, fun t ht => (hf t ht).ext (Ext.bump hsub) H, hd⟩

end
end Go.Proofs.YtepahgbgijmipaaEv
