/- A logic over abstract states for walks, eleventh part: code, contracts of functions. -/
import Derived.Test.YtepahgbgijmipaaEv10
namespace Go.Proofs.YtepahgbgijmipaaEv
open Go Go.RowKit

/-- A state of a walk: the slots, the heap, the next block's number, the number at which the call began. -/
structure St where
  fr : List V
  h : Hp
  nx : Nat
  lo : Nat

def evO (fr : List V) : Operand → V
  | .tmp t => fr.getD t .any
  | .const v => ofVal v
  | .global _ => .any
  | .func f => .d (.fn f)

/-- Where a call began. -/
structure Ent where
  w : World
  S : Nat → Prop
  h : Hp
  m : Nat → Nat × Nat
  nx : Nat
  lt : ∀ i B, h i = some B → i < nx

/-- The numbers that have been given out. -/
abbrev low (n : Nat) : Nat → Prop := fun i => i < n

/-- A state over any set of numbers. -/
def RelU (E : Ent) (lo : Nat) (fr : List V) (h : Hp) (U : Nat → Prop) (a : Act) (w : World) : Prop :=
  E.nx = lo ∧ ∃ S m, Ext E.w E.S E.h E.m (low E.nx) w S h m U ∧ HR w S h m U ∧ a.tmps.size = fr.length ∧
    (∀ (t : Nat) (ht : t < fr.length), RV w S h m U (a.tmps.getD t undef) fr[t]) ∧ a.defers = []

def Rel (E : Ent) (st : St) (a : Act) (w : World) : Prop := RelU E st.lo st.fr st.h (low st.nx) a w

theorem evO_rv {w : World} {S : Nat → Prop} {h : Hp} {m : Nat → Nat × Nat} {nx : Nat → Prop} {fr : List V} {a : Act}
    (hf : ∀ (t : Nat) (ht : t < fr.length), RV w S h m nx (a.tmps.getD t undef) fr[t]) (x : Operand) : RV w S h m nx (a.eval x) (evO fr x) := by
  cases x with
  | tmp t =>
    simp only [Act.eval, evO, List.getD_eq_getElem?_getD]
    by_cases ht : t < fr.length
    · rw [List.getElem?_eq_getElem ht]; exact hf t ht
    · rw [List.getElem?_eq_none (Nat.le_of_not_lt ht)]; exact .any _
  | const v => exact ofVal_rv v
  | global g => exact .any _
  | func f => exact .d _ _ (.fn f)

inductive Ex where
  | normal
  | exit (id : Nat)
  | ret

def PostC (E : Ent) (Q : Ex → St → Prop) : Exit → Act → World → Prop
  | .normal, a, w => ∃ st, Q .normal st ∧ Rel E st a w
  | .exit i, a, w => ∃ st, Q (.exit i) st ∧ Rel E st a w
  | .ret, a, w => ∃ st, Q .ret st ∧ Rel E st a w
  | _, _, _ => False

def Safe (P : Program) (c : Code) (st : St) (Q : Ex → St → Prop) : Prop :=
  ∀ (E : Ent) (a : Act) (w : World), Rel E st a w → c.wp P (PostC E Q) a w

section
variable {P : Program} {st : St} {Q : Ex → St → Prop}

theorem Safe.mono {c : Code} {Q' : Ex → St → Prop} (h : Safe P c st Q) (hq : ∀ e s, Q e s → Q' e s) : Safe P c st Q' := fun E a w hr =>
  wp_mono (h E a w hr) fun e a w hp => by
    cases e <;> first | exact hp.elim | (obtain ⟨s, h1, h2⟩ := hp; exact ⟨s, hq _ _ h1, h2⟩)

def Ex.andThen (K : St → Prop) (Q : Ex → St → Prop) : Ex → St → Prop
  | .normal, s => K s
  | e, s => Q e s

theorem Safe.seq {c d : Code} (h : Safe P c st (Ex.andThen (fun s => Safe P d s Q) Q)) : Safe P (.seq c d) st Q := fun E a w hr =>
  wp_seq (wp_mono (h E a w hr) fun e a w hp => by
    cases e with
    | normal => obtain ⟨s, h1, h2⟩ := hp; exact h1 E a w h2
    | exit i => exact hp
    | ret => exact hp
    | _ => exact hp.elim)

theorem Safe.skip (h : Q .normal st) : Safe P .skip st Q := fun _ _ _ hr => wp_skip ⟨st, h, hr⟩
theorem Safe.label {l : Nat} (h : Q .normal st) : Safe P (.label l) st Q := fun _ _ _ hr => wp_label ⟨st, h, hr⟩
theorem Safe.exit {i : Nat} (h : Q (.exit i) st) : Safe P (.exit i) st Q := fun _ _ _ hr => wp_exit ⟨st, h, hr⟩
theorem Safe.ret (h : Q .ret st) : Safe P .ret st Q := fun _ _ _ hr => wp_ret ⟨st, h, hr⟩

theorem Safe.cond {c : Operand} {x y : Code} {b : Bool} (hc : evO st.fr c = .d (.bool b)) (ht : b = true → Safe P x st Q) (hf : b = false → Safe P y st Q) : Safe P (.cond c x y) st Q := fun E a w hr => by
  have hr' := hr
  obtain ⟨_, S, m, _, H, _, hfr, _⟩ := hr
  have := evO_rv hfr c
  rw [hc] at this
  exact wp_cond_split (rv_bool this) (fun e => ht e E a w hr') (fun e => hf e E a w hr')

def Ex.inBlock (i : Nat) (Q : Ex → St → Prop) : Ex → St → Prop
  | .exit j, s => if j = i then Q .normal s else Q (.exit j) s
  | e, s => Q e s
theorem Safe.block {i : Nat} {c : Code} (h : Safe P c st (Ex.inBlock i Q)) : Safe P (.block i c) st Q := fun E a w hr =>
  wp_block (wp_mono (h E a w hr) fun e a w hp => by
    cases e with
    | normal => exact hp
    | exit j =>
      obtain ⟨s, h1, h2⟩ := hp
      simp only [Exit.inBlock, Ex.inBlock] at h1 ⊢
      split
      · rename_i hj; rw [if_pos hj] at h1; exact ⟨s, h1, h2⟩
      · rename_i hj; rw [if_neg hj] at h1; exact ⟨s, h1, h2⟩
    | ret => exact hp
    | _ => exact hp.elim)

/-- A loop: whatever the number of rounds left, the relation holds at each round's head. -/
theorem Safe.loop {c : Code} (I : Nat → St → Prop) {n : Nat} (h0 : I n st) (hround : ∀ n s, I n s → Safe P c s (Ex.andThen (fun s' => ∃ k, k < n ∧ I k s') Q)) : Safe P (.loop c) st Q := by
  intro E a w hr b k cs
  have key : ∀ n s, I n s → ∀ a w, Rel E s a w → ∃ e a' w', PostC E Q e a' w' ∧ Arrives P (lone (b.at a (.code c :: .inLoop c :: k)) cs w) b k cs e a' w' := by
    intro n
    induction n using Nat.strongRecOn with
    | _ n ih =>
      intro s hI a w hr
      obtain ⟨e, a₁, w₁, hq, harr⟩ := hround n s hI E a w hr b (.inLoop c :: k) cs
      cases e with
      | normal =>
        obtain ⟨s', ⟨j, hj, hI'⟩, hr'⟩ := hq
        obtain ⟨e₂, a₂, w₂, hq₂, harr₂⟩ := ih j hj s' hI' a₁ w₁ hr'
        exact ⟨e₂, a₂, w₂, hq₂, .of_steps (Steps.trans harr (.one step_inLoop)) harr₂⟩
      | exit id => exact ⟨_, a₁, w₁, (show PostC E Q (.exit id) a₁ w₁ from hq), .pass (x := .inLoop c) rfl (fun _ _ => .inl (by simp)) harr⟩
      | ret => exact ⟨_, a₁, w₁, (show PostC E Q .ret a₁ w₁ from hq), .pass (x := .inLoop c) rfl (fun _ _ => .inl (by simp)) harr⟩
      | goto l => exact hq.elim
      | panic ch => exact hq.elim
      | outgrown => exact hq.elim
  obtain ⟨e, a', w', hq, harr⟩ := key n st h0 a w hr
  exact ⟨e, a', w', hq, .of_steps (.one step_loop) harr⟩

/-- A region whose order is the text's. -/
def SafeL (P : Program) (ops : Array Oper) (l : List Oper) (st : St) (K : St → Prop) : Prop :=
  ∀ (E : Ent) (a : Act) (w : World) (Q : Exit → Act → World → Prop), (∀ a w s, K s → Rel E s a w → Q .normal a w) → Rel E st a w → wpList P ops Q l a w

theorem Safe.region {i : Nat} {l : List Oper} (h : SafeL P l.toArray l st (Q .normal)) : Safe P (.region i l.toArray false) st Q := fun E a w hr =>
  wp_region_lit (h E a w (PostC E Q) (fun _ _ s hk hr => ⟨s, hk, hr⟩) hr)

theorem SafeL.nil {ops : Array Oper} {K : St → Prop} (h : K st) : SafeL P ops [] st K := fun _ a w _ hq hr => hq a w st h hr

/-- The frame with one slot written. -/
def put (fr : List V) (dst : Option Tmp) (v : V) : List V :=
  match dst with
  | some d => fr.set d v
  | none => fr

theorem frame_put {w : World} {S : Nat → Prop} {h : Hp} {m : Nat → Nat × Nat} {nx : Nat → Prop} {fr : List V} {a : Act} (hl : a.tmps.size = fr.length)
    (hf : ∀ (t : Nat) (ht : t < fr.length), RV w S h m nx (a.tmps.getD t undef) fr[t]) (dst : Option Tmp) {cv : Value} {v : V} (hv : RV w S h m nx cv v) :
    (a.put dst cv).tmps.size = (put fr dst v).length ∧ ∀ (t : Nat) (ht : t < (put fr dst v).length), RV w S h m nx ((a.put dst cv).tmps.getD t undef) (put fr dst v)[t] := by
  cases dst with
  | none => exact ⟨hl, hf⟩
  | some d =>
    refine ⟨by simp [Act.put, put, hl], fun t ht => ?_⟩
    have ht' : t < fr.length := by simpa [put] using ht
    by_cases hd : d = t
    · subst hd
      have e1 : (a.put (some d) cv).tmps.getD d undef = cv := by simp [Act.put, hl, ht']
      have e2 : (put fr (some d) v)[d] = v := by simp [put]
      rw [e1, e2]; exact hv
    · have e1 : (a.put (some d) cv).tmps.getD t undef = a.tmps.getD t undef := by simp [Act.put, Array.getElem?_setIfInBounds_ne hd]
      have e2 : (put fr (some d) v)[t] = fr[t] := by simp [put, List.getElem_set_ne hd]
      rw [e1, e2]; exact hf t ht'

/-- A state behind one operation. -/
theorem RelU.step {E : Ent} {lo : Nat} {fr : List V} {h : Hp} {U : Nat → Prop} {a : Act} {w w' : World} {S S' : Nat → Prop} {m m' : Nat → Nat × Nat} (hlo : E.nx = lo) (e0 : Ext E.w E.S E.h E.m (low E.nx) w S h m U) (H : HR w S h m U) (hl : a.tmps.size = fr.length)
    (hf : ∀ (t : Nat) (ht : t < fr.length), RV w S h m U (a.tmps.getD t undef) fr[t]) (hd : a.defers = []) (dst : Option Tmp) {cv : Value} {v : V} {h' : Hp} {U' : Nat → Prop}
    (e : Ext w S h m U w' S' h' m' U') (H' : HR w' S' h' m' U') (hv : RV w' S' h' m' U' cv v) : RelU E lo (put fr dst v) h' U' (a.put dst cv) w' := by
  obtain ⟨h1, h2⟩ := frame_put (a := a) hl (fun t ht => (hf t ht).ext e H) dst hv
  refine ⟨hlo, S', m', e0.trans e, H', h1, h2, ?_⟩
  cases dst <;> exact hd

def nxt (nx : Nat) (wr : List (Nat × Blk)) : Nat := if wr.any (fun p => p.1 == nx) then nx + 1 else nx
theorem nxt_le (nx : Nat) (wr : List (Nat × Blk)) : nx ≤ nxt nx wr := by unfold nxt; split <;> omega
theorem nxt_lt {nx : Nat} {wr : List (Nat × Blk)} (h : wr.any (fun p => p.1 == nx) = true) : nx < nxt nx wr := by unfold nxt; rw [if_pos h]; omega

/-- One operation that is done whatever holds. -/
theorem SafeL.op {ops : Array Oper} {o : Oper} {l : List Oper} {K : St → Prop} (hg : o.guard = none) {v : V} {rd : List Nat} {wr : List (Nat × Blk)} (he : evOp P (evO st.fr) st.h st.nx o.op = some (v, rd, wr))
    (hK : SafeL P ops l ⟨put st.fr o.dst v, st.h.upds wr, nxt st.nx wr, st.lo⟩ K) : SafeL P ops (o :: l) st K := fun E a w Q hq hr => by
  obtain ⟨hlo, S, m, e0, H, hl, hf, hd⟩ := hr
  obtain ⟨cv, w', S', m', hrun, e, H', hv⟩ := evOp_sound (nx' := low (nxt st.nx wr)) H st.nx (Nat.lt_irrefl _) (fun i hi => Nat.lt_of_lt_of_le hi (nxt_le st.nx wr)) (ρc := a.eval) (evO_rv hf) o he nxt_lt
  have hr' := RelU.step hlo e0 H hl hf hd o.dst e H' hv
  refine wpList_plain hg fun k hk => ?_
  unfold Oper.wp
  rcases hrun with hrun | ⟨hrun, rfl⟩
  · rw [hrun]; exact hk _ _ (hK E _ _ Q hq hr')
  · rw [hrun]; exact hk _ _ (hK E _ _ Q hq hr')

theorem wanted_of {ops : Array Oper} {o : Oper} {j : Nat} {want b : Bool} (hg : o.guard = some (j, want)) {t : Tmp} (hj : (ops[j]?).bind (·.dst) = some t) {E : Ent} {a : Act} {w : World} (hr : Rel E st a w) (hb : st.fr[t]? = some (.d (.bool b))) :
    Region.wanted o (yielded ops a.tmps) = (b == want) := by
  obtain ⟨hlo, S, m, e0, H, hl, hf, hd⟩ := hr
  obtain ⟨ht, hb'⟩ := List.getElem?_eq_some_iff.1 hb
  have := hf t ht
  rw [hb'] at this
  have hv := rv_bool this
  have hts : a.tmps[t]? = some (.bool b) := by
    rw [Array.getElem?_eq_getElem (by omega)]
    simp [Array.getD, hl, ht] at hv
    rw [hv]
  simp [Region.wanted, hg, yielded, hj, hts]

theorem rv_undef {w : World} {S : Nat → Prop} {h : Hp} {m : Nat → Nat × Nat} {nx : Nat → Prop} {v : Value} (hv : RV w S h m nx v (.tup [])) : v = undef := by
  cases hv with
  | tup vs _ hl hr =>
    have : vs = [] := List.eq_nil_of_length_eq_zero hl
    subst this; rfl
theorem rv_undef' {w : World} {S : Nat → Prop} {h : Hp} {m : Nat → Nat × Nat} {nx : Nat → Prop} : RV w S h m nx undef (.tup []) := .tup [] [] rfl fun j h => by simp at h

theorem not_wanted {ops : Array Oper} {o : Oper} {j : Nat} {want : Bool} (hg : o.guard = some (j, want)) {t : Tmp} (hj : (ops[j]?).bind (·.dst) = some t) {E : Ent} {a : Act} {w : World} (hr : Rel E st a w) (hb : st.fr[t]? = some (.tup [])) :
    Region.wanted o (yielded ops a.tmps) = false := by
  obtain ⟨hlo, S, m, e0, H, hl, hf, hd⟩ := hr
  obtain ⟨ht, hb'⟩ := List.getElem?_eq_some_iff.1 hb
  have := hf t ht
  rw [hb'] at this
  have hv := rv_undef this
  have hts : a.tmps[t]? = some undef := by
    rw [Array.getElem?_eq_getElem (by omega)]
    simp [Array.getD, hl, ht] at hv
    rw [hv]
  simp [Region.wanted, hg, yielded, hj, hts, undef]

/-- An operation whose guard was not done. -/
theorem SafeL.unwanted {ops : Array Oper} {o : Oper} {l : List Oper} {K : St → Prop} {j : Nat} {want : Bool} (hg : o.guard = some (j, want)) {t : Tmp} (hj : (ops[j]?).bind (·.dst) = some t) (hb : st.fr[t]? = some (.tup []))
    (hno : SafeL P ops l { st with fr := put st.fr o.dst (.tup []) } K) : SafeL P ops (o :: l) st K := fun E a w Q hq hr => by
  have hw := not_wanted hg hj hr hb
  unfold wpList
  rw [if_neg (by rw [hw]; simp)]
  obtain ⟨hlo, S, m, e0, H, hl, hf, hd⟩ := hr
  exact hno E _ _ Q hq (RelU.step hlo e0 H hl hf hd o.dst Ext.refl H rv_undef')

/-- One operation that is done in one case alone. -/
theorem SafeL.guarded {ops : Array Oper} {o : Oper} {l : List Oper} {K : St → Prop} {j : Nat} {want b : Bool} (hg : o.guard = some (j, want)) {t : Tmp} (hj : (ops[j]?).bind (·.dst) = some t) (hb : st.fr[t]? = some (.d (.bool b)))
    (hyes : b = want → SafeL P ops ({ o with guard := none } :: l) st K) (hno : b ≠ want → SafeL P ops l { st with fr := put st.fr o.dst (.tup []) } K) : SafeL P ops (o :: l) st K := fun E a w Q hq hr => by
  have hw := wanted_of hg hj hr hb
  by_cases hbw : b = want
  · have h1 := hyes hbw E a w Q hq hr
    have hw' : Region.wanted o (yielded ops a.tmps) = true := by rw [hw, hbw]; simp
    unfold wpList at h1 ⊢
    rw [if_pos (by simp [Region.wanted])] at h1
    rw [if_pos hw']
    exact h1
  · have hw' : ¬ Region.wanted o (yielded ops a.tmps) = true := by rw [hw]; simpa using hbw
    unfold wpList
    rw [if_neg hw']
    obtain ⟨hlo, S, m, e0, H, hl, hf, hd⟩ := hr
    exact hno hbw E _ _ Q hq (RelU.step hlo e0 H hl hf hd o.dst Ext.refl H rv_undef')

/-- What a call of a function of the program comes to. -/
def Spec (P : Program) (f : FuncId) (args : List V) (h : Hp) (nx : Nat) (R : V → Hp → Nat → Prop) : Prop :=
  ∀ (w : World) (S : Nat → Prop) (m : Nat → Nat × Nat) (vs : List Value), HR w S h m (low nx) → All2 (RV w S h m (low nx)) vs args →
    Calls P f vs.toArray w fun e w' => ∃ v r h' nx' S' m', e = .returned v ∧ R r h' nx' ∧ Ext w S h m (low nx) w' S' h' m' (low nx') ∧ HR w' S' h' m' (low nx') ∧ RV w' S' h' m' (low nx') v r

theorem Spec.mono {f : FuncId} {args : List V} {h : Hp} {nx : Nat} {R R' : V → Hp → Nat → Prop} (hs : Spec P f args h nx R) (hR : ∀ r h' nx', R r h' nx' → R' r h' nx') : Spec P f args h nx R' := fun w S m vs H ha =>
  (hs w S m vs H ha).mono fun _ _ ⟨v, r, h', nx', S', m', h1, h2, h3⟩ => ⟨v, r, h', nx', S', m', h1, hR _ _ _ h2, h3⟩

/-- The function that a value stands for, and what it captured. -/
def calleeOf : V → Option (FuncId × List V)
  | .d (.fn f) => some (f, [])
  | .fn f cs => some (f, cs)
  | _ => none

/-- Can the function be entered? -/
def enters (P : Program) (f : FuncId) : Bool :=
  match P.funcs[f]? with
  | some fn => fn.body.isSome && !(fn.name == "runtime.NumGoroutine")
  | none => false

theorem run_call {P : Program} {w : World} {S : Nat → Prop} {h : Hp} {m : Nat → Nat × Nat} {nx : Nat → Prop} {ρ : Operand → V} {ρc : Operand → Value} (hρ : ∀ x, RV w S h m nx (ρc x) (ρ x)) {o : Oper} {fo : Operand} {args : Array Operand} {ats : Array TypeId}
    (ho : o.op = .call { callee := .value fo, args := args, argTypes := ats }) {g : FuncId} {caps : List V} (hf : calleeOf (ρ fo) = some (g, caps)) (he : enters P g = true) :
    ∃ vs : List Value, (execOp ρc o).run P w = .ok (.enter g vs.toArray) w ∧ All2 (RV w S h m nx) vs (args.toList.map ρ ++ caps) := by
  have hcall : ∀ vs : Array Value, (callFunc g vs).run P w = .ok (.enter g vs) w := fun vs => by
    unfold enters at he
    split at he
    · rename_i fn hfn
      simp only [Bool.and_eq_true, Bool.not_eq_true'] at he
      obtain ⟨c, hb⟩ := Option.isSome_iff_exists.1 he.1
      have hn : ¬ fn.name = "runtime.NumGoroutine" := by simpa using he.2
      simp [callFunc, hfn, hb, hn]
    · cases he
  have hfo := hρ fo
  have hargs : All2 (RV w S h m nx) (args.toList.map ρc) (args.toList.map ρ) := ⟨by simp, fun j h1 h2 => by simp; exact hρ _⟩
  unfold calleeOf at hf
  split at hf
  · rename_i f hv
    cases hf
    rw [hv] at hfo
    have hc := rv_dfn hfo
    refine ⟨args.toList.map ρc, ?_, by simpa using hargs⟩
    have e : (args.toList.map ρc).toArray = args.map ρc := by apply Array.ext'; simp
    rw [e]
    simp [execOp, ho, resolve, hc, Deferred.ofValue, invoke, hcall]
  · rename_i f cs hv
    cases hf
    rw [hv] at hfo
    obtain ⟨vs, hc, hvs⟩ := rv_fn hfo
    refine ⟨args.toList.map ρc ++ vs, ?_, hargs.append hvs⟩
    have e : (args.toList.map ρc ++ vs).toArray = args.map ρc ++ vs.toArray := by apply Array.ext'; simp
    rw [e]
    simp [execOp, ho, resolve, hc, Deferred.ofValue, invoke, hcall]
  · cases hf

theorem SafeL.call {ops : Array Oper} {o : Oper} {l : List Oper} {K : St → Prop} (hg : o.guard = none) {fo : Operand} {args : Array Operand} {ats : Array TypeId} (ho : o.op = .call { callee := .value fo, args := args, argTypes := ats })
    {g : FuncId} {caps : List V} (hf : calleeOf (evO st.fr fo) = some (g, caps)) (he : enters P g = true) {R : V → Hp → Nat → Prop} (hs : Spec P g (args.toList.map (evO st.fr) ++ caps) st.h st.nx R)
    (hK : ∀ r h' nx', R r h' nx' → SafeL P ops l ⟨put st.fr o.dst r, h', nx', st.lo⟩ K) : SafeL P ops (o :: l) st K := fun E a w Q hq hr => by
  obtain ⟨hlo, S, m, e0, H, hl, hf', hd⟩ := hr
  obtain ⟨vs, hrun, hvs⟩ := run_call (evO_rv hf') ho hf he
  refine wpList_plain hg fun k hk => ?_
  unfold Oper.wp
  rw [hrun]
  refine (hs w S m vs H hvs).mono fun e w' ⟨v, r, h', nx', S', m', h1, h2, h3, h4, h5⟩ => ?_
  subst h1
  exact hk _ _ (hK r h' nx' h2 E _ _ Q hq (RelU.step hlo e0 H hl hf' hd o.dst h3 h4 h5))

/-- The results of a call, off the last frame. -/
def resV1 (P : Program) (st : St) : ResultVar → Option V
  | .tmp t => some (st.fr.getD t .any)
  | .cell t ty => Option.map (fun p => p.1) (evLoad P st.h ty (st.fr.getD t .any))
def resVs (P : Program) (st : St) : List ResultVar → Option (List V)
  | [] => some []
  | r :: rs => match resV1 P st r, resVs P st rs with
    | some v, some vs => some (v :: vs)
    | _, _ => none
def resV (P : Program) (rs : List ResultVar) (st : St) : Option V :=
  match resVs P st rs with
  | some [v] => some v
  | some vs => some (.tup vs)
  | none => none

theorem evLoad_asAddr {w : World} {S : Nat → Prop} {h : Hp} {m : Nat → Nat × Nat} {nx : Nat → Prop} (H : HR w S h m nx) {t : TypeId} {cx : Value} {x : V} (hx : RV w S h m nx cx x) {v : V} {rd : List Nat} (he : evLoad P h t x = some (v, rd)) :
    ∃ cv a, cx = .pointer (some a) ∧ (loadVar t a).run P w = .ok cv w ∧ RV w S h m nx cv v := by
  obtain ⟨cv, h1, h2⟩ := evLoad_sound H hx he
  cases hx with
  | ptr _ id ver i o hlt hver hv =>
    unfold evLoad at he
    split at he
    · simp only at he
      split at he
      · rename_i B hB
        obtain ⟨hB, hb⟩ := rdBlk_some hB
        obtain ⟨_, rfl⟩ := hv B hB hb
        exact ⟨cv, _, rfl, by simpa [Instr.loadAt, Instr.sureAddr] using h1, h2⟩
      · cases he
    · cases he
  | ip b off o cs cells hS hl hc hr => exact ⟨cv, _, rfl, by simpa [Instr.loadAt, Instr.sureAddr] using h1, h2⟩
  | _ => unfold evLoad at he; split at he <;> first | (simp at he; done) | cases he

theorem resVs_sound {w : World} {S : Nat → Prop} {m : Nat → Nat × Nat} {a : Act} (H : HR w S st.h m (low st.nx)) (hl : a.tmps.size = st.fr.length)
    (hf : ∀ (t : Nat) (ht : t < st.fr.length), RV w S st.h m (low st.nx) (a.tmps.getD t undef) st.fr[t]) (g : ResultVar → Sem Value) (hg1 : ∀ t, g (.tmp t) = Pure.pure (a.tmps.getD t undef))
    (hg2 : ∀ x t, g (.cell x t) = (do loadVar t (← asAddr (a.tmps.getD x undef)))) : ∀ (rs : List ResultVar) (vs : List V), resVs P st rs = some vs →
    ∃ cvs : List Value, (rs.mapM g).run P w = .ok cvs w ∧ All2 (RV w S st.h m (low st.nx)) cvs vs
  | [], vs, he => by simp [resVs] at he; subst he; exact ⟨[], by simp, All2.nil⟩
  | r :: rs, vs, he => by
    simp only [resVs] at he
    split at he
    · rename_i v vs' h1 h2
      cases he
      obtain ⟨cvs, h3, h4⟩ := resVs_sound H hl hf g hg1 hg2 rs vs' h2
      have hget : ∀ t, RV w S st.h m (low st.nx) (a.tmps.getD t undef) (st.fr.getD t .any) := fun t => evO_rv (a := a) hf (.tmp t)
      have one : ∃ cv, (g r).run P w = .ok cv w ∧ RV w S st.h m (low st.nx) cv v := by
        cases r with
        | tmp t =>
          simp only [resV1, Option.some.injEq] at h1
          subst h1
          exact ⟨_, by rw [hg1]; rfl, hget t⟩
        | cell x t =>
          simp only [resV1] at h1
          cases hld : evLoad P st.h t (st.fr.getD x .any) with
          | none => rw [hld] at h1; cases h1
          | some p =>
            rw [hld] at h1
            simp only [Option.map_some, Option.some.injEq] at h1
            subst h1
            obtain ⟨cv, ad, e1, e2, e3⟩ := evLoad_asAddr (P := P) H (hget x) (v := p.1) (rd := p.2) hld
            exact ⟨cv, by rw [hg2]; simp only [e1, Sem.run_bind, asAddr, Sem.run_pure, Result.andThen_ok, e2], e3⟩
      obtain ⟨cv, h5, h6⟩ := one
      refine ⟨cv :: cvs, ?_, ?_⟩
      · rw [List.mapM_cons]
        simp only [Sem.run_bind, h5, Result.andThen_ok, h3, Sem.run_pure]
      · have h7 : All2 (RV w S st.h m (low st.nx)) [cv] [v] := ⟨rfl, fun j a b => by
          have : j = 0 := by simp at a; omega
          subst this; exact h6⟩
        exact h7.append h4
    · cases he

/-- A contract out of the body. -/
theorem Spec.of_body {f : FuncId} {fn : Func} {c : Code} {args : List V} {h : Hp} {nx : Nat} {R : V → Hp → Nat → Prop} (hf : P.funcs[f]? = some fn) (hb : fn.body = some c)
    (hs : Safe P c ⟨args ++ List.replicate (fn.ntmps - args.length) .any, h, nx, nx⟩ fun e s => (e = .normal ∨ e = .ret) ∧ ∃ r, resV P fn.results.toList s = some r ∧ R r s.h s.nx) : Spec P f args h nx R := fun w S m vs H ha => by
  refine calls_of_wp hf hb (wp_mono (hs ⟨w, S, h, m, nx, H.lt⟩ _ w ⟨rfl, S, m, Ext.refl, H, ?_, ?_, rfl⟩) fun e a w' hp => ?_)
  · simp [ha.1]
  · intro t ht
    by_cases h1 : t < args.length
    · have e1 : (args ++ List.replicate (fn.ntmps - args.length) V.any)[t] = args[t] := List.getElem_append_left h1
      have h2 : t < vs.length := by have := ha.1; omega
      have e2 : ((vs.toArray ++ Array.replicate (fn.ntmps - vs.toArray.size) undef).getD t undef) = vs[t] := by
        have hlt : t < (vs.toArray ++ Array.replicate (fn.ntmps - vs.toArray.size) undef).size := by simp; omega
        rw [Array.getD_eq_getD_getElem?, Array.getElem?_eq_getElem hlt, Option.getD_some, Array.getElem_append_left (by simpa using h2)]
        simp
      simp only [e1, e2]
      exact ha.2 t h2 h1
    · have e1 : (args ++ List.replicate (fn.ntmps - args.length) V.any)[t] = .any := by
        rw [List.getElem_append_right (by omega)]; simp
      simp only [e1]
      exact .any _
  · have fin : ∀ s e, ((e = Ex.normal ∨ e = Ex.ret) ∧ ∃ r, resV P fn.results.toList s = some r ∧ R r s.h s.nx) → Rel ⟨w, S, h, m, nx, H.lt⟩ s a w' →
        a.defers = [] ∧ ∃ v, (results fn a.tmps).run P w' = .ok v w' ∧ ∃ v' r h' nx' S' m', Ending.returned v = .returned v' ∧ R r h' nx' ∧ Ext w S h m (low nx) w' S' h' m' (low nx') ∧ HR w' S' h' m' (low nx') ∧ RV w' S' h' m' (low nx') v' r := by
      rintro s e ⟨_, r, hr, hR⟩ ⟨_, S', m', e0, H', hl, hf', hd⟩
      refine ⟨hd, ?_⟩
      unfold resV at hr
      cases hrv : resVs P s fn.results.toList with
      | none => rw [hrv] at hr; cases hr
      | some rvs =>
        have hg : ∃ g : ResultVar → Sem Value, (∀ t, g (.tmp t) = Pure.pure (a.tmps.getD t undef)) ∧ (∀ x t, g (.cell x t) = (do loadVar t (← asAddr (a.tmps.getD x undef)))) ∧
            results fn a.tmps = (do let vs ← fn.results.mapM g; Pure.pure (if h : vs.size = 1 then vs[0] else .tuple vs)) := ⟨_, fun _ => rfl, fun _ _ => rfl, rfl⟩
        obtain ⟨g, hg1, hg2, hg3⟩ := hg
        obtain ⟨cvs, h1, h2⟩ := resVs_sound (P := P) (st := s) H' hl hf' g hg1 hg2 fn.results.toList rvs hrv
        rw [hrv] at hr
        have hres : (results fn a.tmps).run P w' = .ok (if h : cvs.toArray.size = 1 then cvs.toArray[0] else .tuple cvs.toArray) w' := by
          rw [hg3, Array.mapM_eq_mapM_toList]
          simp only [Sem.run_bind, Sem.run_map, h1, Result.andThen_ok, Sem.run_pure]
        refine ⟨_, hres, _, r, s.h, s.nx, S', m', rfl, hR, e0, H', ?_⟩
        have hlen := h2.1
        match cvs, rvs, h2, hlen, hr with
        | [c], [v], h2, _, hr =>
          simp only [Option.some.injEq] at hr
          subst hr
          have := h2.2 0 (by simp) (by simp)
          simpa using this
        | [], [], h2, _, hr =>
          simp only [Option.some.injEq] at hr
          subst hr
          have := RV.tup (w := w') (S := S') (h := s.h) (m := m') (nx := low s.nx) [] [] h2.1 h2.2
          simpa using this
        | c :: c' :: cs, v :: v' :: vs', h2, _, hr =>
          simp only [Option.some.injEq] at hr
          subst hr
          have := RV.tup (w := w') (S := S') (h := s.h) (m := m') (nx := low s.nx) _ _ h2.1 h2.2
          simpa using this
        | [], _ :: _, _, hlen, _ => simp at hlen
        | _ :: _, [], _, hlen, _ => simp at hlen
        | [_], _ :: _ :: _, _, hlen, _ => simp at hlen
        | _ :: _ :: _, [_], _, hlen, _ => simp at hlen
    cases e with
    | normal => obtain ⟨s, h1, h2⟩ := hp; exact fin s _ h1 h2
    | ret => obtain ⟨s, h1, h2⟩ := hp; exact fin s _ h1 h2
    | exit i => obtain ⟨s, ⟨h1, _⟩, _⟩ := hp; rcases h1 with h1 | h1 <;> cases h1
    | _ => exact hp.elim

end
end Go.Proofs.YtepahgbgijmipaaEv
