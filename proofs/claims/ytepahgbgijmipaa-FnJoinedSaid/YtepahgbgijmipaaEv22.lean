/- A logic over abstract states for walks, twenty-second part: calls that are passed some blocks and read others by value. -/
import Derived.Test.YtepahgbgijmipaaEv21
namespace Go.Proofs.YtepahgbgijmipaaEv
open Go Go.RowKit

/-- The heap without some blocks, and with them alone. -/
def Hp.less (h : Hp) (ids : List Nat) : Hp := fun i => if i ∈ ids then none else h i
def Hp.only (h : Hp) (ids : List Nat) : Hp := fun i => if i ∈ ids then h i else none

section
variable {P : Program} {w : World} {S : Nat → Prop} {h : Hp} {m : Nat → Nat × Nat} {nx : Nat → Prop}

theorem RV.sub {S' : Nat → Prop} {h' : Hp} (hS : ∀ b, S b → S' b) (hh : ∀ i, h' i = h i ∨ h' i = none) {v : Value} {x : V} (hv : RV w S h m nx v x) : RV w S' h' m nx v x := by
  induction hv with
  | any v => exact .any v
  | d v x hd => exact .d _ _ (hd.mono hS fun _ _ => rfl)
  | ptr v id ver i o hlt hver hvv =>
    exact .ptr v id ver i o hlt (fun B hB => by rcases hh id with e | e <;> rw [e] at hB; exact hver B hB; cases hB) fun B hB => by
      rcases hh id with e | e <;> rw [e] at hB
      · exact hvv B hB
      · cases hB
  | ip b off o cs cells hSb hl hc hr => exact .ip b off o cs cells (hS _ hSb) hl hc fun j a b => (hr j a b).mono hS fun _ _ => rfl
  | sl v id ver off len hlt hver hvv =>
    exact .sl v id ver off len hlt (fun B hB => by rcases hh id with e | e <;> rw [e] at hB; exact hver B hB; cases hB) fun B hB => by
      rcases hh id with e | e <;> rw [e] at hB
      · exact hvv B hB
      · cases hB
  | agg vs cs hl hr ih => exact .agg vs cs hl ih
  | tup vs cs hl hr ih => exact .tup vs cs hl ih
  | fn f vs cs hl hr ih => exact .fn f vs cs hl ih

theorem HR.sub {S' : Nat → Prop} {h' : Hp} (H : HR w S h m nx) (hS : ∀ b, S b → S' b) (hh : ∀ i, h' i = h i ∨ h' i = none) (hS' : ∀ b, S' b → b < w.heap.size ∧ ∀ i B, h' i = some B → (m i).1 ≠ b) : HR w S' h' m nx := by
  have get : ∀ i B, h' i = some B → h i = some B := fun i B hB => by
    rcases hh i with e | e <;> rw [e] at hB
    · exact hB
    · cases hB
  refine ⟨hS', fun i j B B' h1 h2 => H.inj i j B B' (get i B h1) (get j B' h2), fun i B hB => H.lt i B (get i B hB), fun i B hB => ?_⟩
  obtain ⟨C, c1, c2, c3, c4, c5, c6, c7⟩ := H.blk i B (get i B hB)
  exact ⟨C, c1, c2, c3, c4, c5, c6, fun j a b => (c7 j a b).sub hS hh⟩

theorem less_or (ids : List Nat) (i : Nat) : h.less ids i = h i ∨ h.less ids i = none := by unfold Hp.less; split <;> simp
theorem only_or (ids : List Nat) (i : Nat) : h.only ids i = h i ∨ h.only ids i = none := by unfold Hp.only; split <;> simp
/-- The blocks that are read by value while the call runs. -/
abbrev MixS (S : Nat → Prop) (h : Hp) (m : Nat → Nat × Nat) (ids : List Nat) : Nat → Prop := Fz S (h.less ids) m 0

theorem HR.less (H : HR w S h m nx) (ids : List Nat) : HR w S (h.less ids) m nx := H.sub (fun _ h => h) (less_or ids) fun b hb => ⟨(H.st b hb).1, fun i B hB => (H.st b hb).2 i B (by rcases less_or (h := h) ids i with e | e <;> rw [e] at hB; exact hB; cases hB)⟩
theorem HR.mix (H : HR w S h m nx) (ids : List Nat) : HR w (MixS S h m ids) (h.only ids) m nx := by
  refine H.sub (fun b hb => .inl hb) (only_or ids) fun b hb => ?_
  have get : ∀ i B, h.only ids i = some B → i ∈ ids ∧ h i = some B := fun i B hB => by
    unfold Hp.only at hB
    split at hB
    · exact ⟨by assumption, hB⟩
    · cases hB
  have get' : ∀ i B, h.less ids i = some B → ¬ i ∈ ids ∧ h i = some B := fun i B hB => by
    unfold Hp.less at hB
    split at hB
    · cases hB
    · exact ⟨by assumption, hB⟩
  rcases hb with hb | ⟨j, Bj, hBj, _, rfl⟩
  · exact ⟨(H.st b hb).1, fun i B hB => (H.st b hb).2 i B (get i B hB).2⟩
  · obtain ⟨hj, hBj⟩ := get' j Bj hBj
    obtain ⟨C, c1, _⟩ := H.blk j Bj hBj
    refine ⟨(Array.getElem?_eq_some_iff.1 c1).1, fun i B hB he => ?_⟩
    obtain ⟨hi, hB⟩ := get i B hB
    have := H.inj i j B Bj hB hBj he
    subst this
    exact hj hi

/-- A value as such a call is handed it. -/
def mixF (h : Hp) (ids : List Nat) (n : Nat) : V → Option V
  | .d x => some (.d x)
  | .ip cs o => some (.ip cs o)
  | .ptr id ver i o => if id ∈ ids then some (.ptr id ver i o) else none
  | .sl id ver off len => if id ∈ ids then some (.sl id ver off len) else (fzD (h.less ids) 0 n (.sl id ver off len)).map .d
  | .agg cs => (mapO (fzD (h.less ids) 0 n) cs).map fun ds => .agg (ds.map .d)
  | .fn f cs => (mixFs h ids n cs).map (.fn f)
  | _ => none
where mixFs (h : Hp) (ids : List Nat) (n : Nat) : List V → Option (List V)
  | [] => some []
  | v :: r => match mixF h ids n v, mixFs h ids n r with
    | some v', some r' => some (v' :: r')
    | _, _ => none

theorem mixFs_mem {ids : List Nat} {n : Nat} : ∀ {cs cs' : List V}, mixF.mixFs h ids n cs = some cs' → cs.length = cs'.length ∧ ∀ (j : Nat) (h1 : j < cs.length) (h2 : j < cs'.length), mixF h ids n cs[j] = some cs'[j]
  | [], cs', he => by simp [mixF.mixFs] at he; subst he; exact ⟨rfl, fun j a => by simp at a⟩
  | v :: r, cs', he => by
    simp only [mixF.mixFs] at he
    split at he
    · rename_i v' r' h1 h2
      cases he
      obtain ⟨a, b⟩ := mixFs_mem h2
      refine ⟨by simp [a], fun j g1 g2 => ?_⟩
      cases j with
      | zero => exact h1
      | succ j => exact b j (by simpa using g1) (by simpa using g2)
    · cases he

theorem mixF_sound (H : HR w S h m nx) (ids : List Nat) (n : Nat) {v : Value} {x : V} (hv : RV w S h m nx v x) : ∀ {y : V}, mixF h ids n x = some y → RV w (MixS S h m ids) (h.only ids) m nx v y := by
  have hsub : ∀ b, S b → MixS S h m ids b := fun b hb => .inl hb
  have hD : ∀ {v : Value} {x : V} {d : D}, RV w S h m nx v x → fzD (h.less ids) 0 n x = some d → RD w (MixS S h m ids) v d := fun hv he => fzD_sound (H.less ids) 0 n _ _ _ (hv.sub (fun _ h => h) (less_or ids)) he
  induction hv with
  | any v => intro y he; simp [mixF] at he
  | d v x hd => intro y he; simp [mixF] at he; subst he; exact .d _ _ (hd.mono hsub fun _ _ => rfl)
  | ip b off o cs cells hS hl hc hr => intro y he; simp [mixF] at he; subst he; exact .ip b off o cs cells (.inl hS) hl hc fun j a b => (hr j a b).mono hsub fun _ _ => rfl
  | ptr v id ver i o hlt hver hvv =>
    intro y he
    simp only [mixF] at he
    split at he
    · cases he; exact (RV.ptr v id ver i o hlt hver hvv).sub hsub (only_or ids)
    · cases he
  | sl v id ver off len hlt hver hvv =>
    intro y he
    simp only [mixF] at he
    split at he
    · cases he; exact (RV.sl v id ver off len hlt hver hvv).sub hsub (only_or ids)
    · cases hq : fzD (h.less ids) 0 n (.sl id ver off len) with
      | none => simp [hq] at he
      | some d => simp [hq] at he; subst he; exact .d _ _ (hD (.sl v id ver off len hlt hver hvv) hq)
  | agg vs cs hl hr ih =>
    intro y he
    simp only [mixF] at he
    cases hq : mapO (fzD (h.less ids) 0 n) cs with
    | none => simp [hq] at he
    | some ds =>
      simp [hq] at he; subst he
      obtain ⟨a, b⟩ := mapO_mem hq
      refine .agg vs _ (by simp; omega) fun j h1 h2 => ?_
      rw [List.getElem_map]
      exact .d _ _ (hD (hr j h1 (by omega)) (b j (by omega) (by simpa using h2)))
  | tup vs cs hl hr ih => intro y he; simp [mixF] at he
  | fn f vs cs hl hr ih =>
    intro y he
    simp only [mixF] at he
    cases hq : mixF.mixFs h ids n cs with
    | none => simp [hq] at he
    | some cs' =>
      simp [hq] at he; subst he
      obtain ⟨a, b⟩ := mixFs_mem hq
      exact .fn f vs cs' (by omega) fun j h1 h2 => ih j h1 (by omega) (b j (by omega) h2)

/-- Blocks of plain cells. -/
def FlatB (B : Blk) : Prop := ∀ e ∈ B.es, ∀ v ∈ e, Flat v

/-- A call that is passed some blocks, which it leaves as they are, and reads others by value. -/
theorem FnSpec.callMixU {f : FuncId} {args args2 args' : List V} {bx : List Blk} {v : V} (hs : FnSpec P f args' bx fun r b => r = v ∧ b = bx) (hv : Flat v) {ids : List Nat} {n : Nat} (hn : ids.Nodup) (hl : ids.length = bx.length)
    (hb : ∀ (j id : Nat), ids[j]? = some id → h id = bx[j]?) (hp : ∀ B ∈ bx, PureB B) (hfl : ∀ B ∈ bx, FlatB B) (hm : mapO (mixF h ids n) args = some args2) (ha : All2 (Arg ids) args2 args') :
    ∀ (w : World) (S : Nat → Prop) (m : Nat → Nat × Nat) (U : Nat → Prop) (vs : List Value), HR w S h m U → All2 (RV w S h m U) vs args →
    Calls P f vs.toArray w fun e w' => ∃ cv, e = .returned cv ∧ Ext w S h m U w' S h m U ∧ HR w' S h m U ∧ RV w' S h m U cv v := fun w S m U vs H hvs => by
  obtain ⟨l1, l2⟩ := mapO_mem hm
  have hb2 : ∀ (j id : Nat), ids[j]? = some id → h.only ids id = bx[j]? := fun j id hj => by
    unfold Hp.only
    rw [if_pos (List.mem_of_getElem? hj)]
    exact hb j id hj
  have hin : ∀ i B, h i = some B → i ∈ ids → ∃ j, ids[j]? = some i ∧ bx[j]? = some B := fun i B hB hi => by
    obtain ⟨j, hj, he⟩ := List.mem_iff_getElem.1 hi
    have hj' : ids[j]? = some i := by rw [List.getElem?_eq_getElem hj, he]
    exact ⟨j, hj', by rw [← hb j i hj']; exact hB⟩
  have hvs2 : All2 (RV w (MixS S h m ids) (h.only ids) m U) vs args2 := ⟨hvs.1.trans l1, fun j h1 h2 => mixF_sound H ids n (hvs.2 j h1 (by have := hvs.1; omega)) (l2 j (by have := hvs.1; omega) h2)⟩
  refine (hs.callU (h := h.only ids) hn hl hb2 hp ha w (MixS S h m ids) m U vs (H.mix ids) hvs2).mono fun e w' ⟨cv, r, bx', S', g1, ⟨g2, g3, g4, g5, g6⟩, g7, g8, g9⟩ => ?_
  subst g5; subst g6
  have hback : (h.only ids).back (ids.zip bx') = h.only ids := upds_back_self hn hl hb2
  rw [hback] at g7 g8 g9
  have hkeep : ∀ b, b < w.heap.size → (∀ i B, h i = some B → i ∈ ids → (m i).1 ≠ b) → w'.heap[b]? = w.heap[b]? := fun b hb hno => g7.keep b hb fun i B hB => by
    unfold Hp.only at hB
    split at hB
    · exact hno i B hB (by assumption)
    · cases hB
  have e1 : Ext w S h m U w' S h m U := ⟨g7.os, g7.tape, g7.output, g7.size, fun _ h => h, fun _ h => h, fun _ h => .inl h, fun b hb hno => hkeep b hb fun i B hB _ => hno i B hB,
    fun i B' _ hB' => ⟨B', hB', Nat.le_refl _, fun _ => ⟨rfl, rfl, rfl⟩⟩, fun i B' hB' => .inl ⟨B', hB', rfl⟩⟩
  refine ⟨cv, g1, e1, ⟨fun b hb => ⟨Nat.lt_of_lt_of_le (H.st b hb).1 g7.size, (H.st b hb).2⟩, H.inj, H.lt, fun i B hB => ?_⟩, hv.rv g9⟩
  by_cases hi : i ∈ ids
  · obtain ⟨j, hj, hBj⟩ := hin i B hB hi
    obtain ⟨C, c1, c2, c3, c4, c5, c6, c7⟩ := g8.blk i B (by unfold Hp.only; rw [if_pos hi]; exact hB)
    refine ⟨C, c1, c2, c3, c4, c5, c6, fun t a1 a2 => ?_⟩
    have hmem := List.getElem_mem a2
    obtain ⟨el, he, hve⟩ := List.mem_flatten.1 hmem
    exact (hfl B (List.mem_of_getElem? hBj) el he _ hve).rv (c7 t a1 a2)
  · obtain ⟨C, c1, c2, c3, c4, c5, c6, c7⟩ := H.blk i B hB
    refine ⟨C, ?_, c2, c3, c4, c5, c6, fun t a1 a2 => (c7 t a1 a2).ext e1 H⟩
    rw [hkeep _ (Array.getElem?_eq_some_iff.1 c1).1 fun i' B' hB' hi' he => ?_]
    · exact c1
    · have := H.inj i' i B' B hB' hB he
      subst this
      exact hi hi'

/-- The blocks that pointers lead to. -/
def ptrIds : List Nat → List V → List Nat
  | acc, [] => acc
  | acc, .ptr id _ _ _ :: r => ptrIds (idAdd acc id) r
  | acc, .fn _ [] :: r => ptrIds acc r
  | acc, .fn _ [.ptr id _ _ _] :: r => ptrIds (idAdd acc id) r
  | acc, .fn _ [.ptr id _ _ _, .ptr id' _ _ _] :: r => ptrIds (idAdd (idAdd acc id) id') r
  | acc, .fn _ [.ptr id _ _ _, .ptr id' _ _ _, .ptr id'' _ _ _] :: r => ptrIds (idAdd (idAdd (idAdd acc id) id') id'') r
  | acc, _ :: r => ptrIds acc r

theorem SafeL.callM {ops : Array Oper} {dst : Option Tmp} {ty : TypeId} {pos : String} {after : Array Edge} {l : List Oper} {K : St → Prop} {fr fr' : List V} {hl : List (Option Blk)} {nx lo : Nat} {fo : Operand} {args : Array Operand} {ats : Array TypeId}
    {g : FuncId} {caps vs : List V} {ids : List Nat} {bx : List Blk} {args2 args' : List V} {r : V} (n : Nat) (hf : calleeOf (evO fr fo) = some (g, caps)) (he : enters P g = true) (hv : args.toList.map (evO fr) ++ caps = vs) (hi : ptrIds [] vs = ids) (hm : mapO (mixF (hL hl) ids n) vs = some args2) (hargs : argF.argsF ids args2 = some args') (hn : ids.Nodup) (hbx : mapO (hL hl) ids = some bx) (hp : ∀ B ∈ bx, PureB B)
    (hfl : ∀ B ∈ bx, FlatB B) (hs : FnSpec P g args' bx fun r' b => r' = r ∧ b = bx) (hr : Flat r) (hfr : put fr dst r = fr') (hK : SafeL P ops l ⟨fr', hL hl, nx, lo⟩ K) : SafeL P ops (⟨dst, .call { callee := .value fo, args := args, argTypes := ats }, ty, pos, after, none⟩ :: l) ⟨fr, hL hl, nx, lo⟩ K := by
  subst hv; subst hfr
  obtain ⟨h1, h2⟩ := hbx_of hbx
  refine SafeL.call (R := fun r' h' nx' => r' = r ∧ h' = hL hl ∧ nx' = nx) rfl rfl hf he (fun w S m vs H ha => ?_) fun r' h' nx' ⟨e1, e2, e3⟩ => ?_
  · exact (hs.callMixU hr hn h1 h2 hp hfl hm (argsF_sound hargs) w S m _ vs H ha).mono fun e w' ⟨cv, k1, k2, k3, k4⟩ => ⟨cv, r, _, _, S, m, k1, ⟨rfl, rfl, rfl⟩, k2, k3, k4⟩
  · subst e1; subst e2; subst e3
    exact hK

theorem flat_nil : ∀ B ∈ ([] : List Blk), FlatB B := fun _ h => by cases h
theorem flat_cons {B : Blk} {l : List Blk} (h : FlatB B) (hl : ∀ B ∈ l, FlatB B) : ∀ A ∈ B :: l, FlatB A := fun A hA => by
  rcases List.mem_cons.1 hA with rfl | h'
  · exact h
  · exact hl A h'
def flatV : V → Bool
  | .d x => flatD x
  | _ => false
theorem flatB_of {B : Blk} (h : (B.es.all fun e => e.all flatV) = true) : FlatB B := fun e he v hv => by
  have h1 := List.all_eq_true.1 (List.all_eq_true.1 h e he) v hv
  cases v <;> first | exact .d _ h1 | (simp [flatV] at h1)
attribute [go_sem] mixF mixF.mixFs ptrIds flatV flatD

/-- A loop whose first round differs: N is above what is left when it is done. -/
theorem Safe.loopPeel {c : Code} {Q : Ex → St → Prop} {st : St} {X : Type} (N : Nat) (μ : X → Nat) (Inv : X → Prop) (hd : X → St)
    (h1 : Safe P c st (Ex.andThen (fun s' => ∃ x, μ x < N ∧ Inv x ∧ Wk s' (hd x)) Q))
    (hround : ∀ x, Inv x → Safe P c (hd x) (Ex.andThen (fun s' => ∃ x', μ x' < μ x ∧ Inv x' ∧ Wk s' (hd x')) Q)) : Safe P (.loop c) st Q := by
  refine Safe.loopW (fun n s => (n = N ∧ s = st) ∨ ∃ x, n = μ x ∧ Inv x ∧ s = hd x) (n := N) (.inl ⟨rfl, rfl⟩) Wk.rfl' ?_
  rintro n s (⟨rfl, rfl⟩ | ⟨x, rfl, hx, rfl⟩)
  · exact h1.mono fun e s h => by
      cases e with
      | normal => obtain ⟨x, a, b, d⟩ := h; exact ⟨_, _, a, .inr ⟨x, rfl, b, rfl⟩, d⟩
      | exit i => exact h
      | ret => exact h
  · exact (hround x hx).mono fun e s h => by
      cases e with
      | normal => obtain ⟨x', a, b, d⟩ := h; exact ⟨_, _, a, .inr ⟨x', rfl, b, rfl⟩, d⟩
      | exit i => exact h
      | ret => exact h
end
end Go.Proofs.YtepahgbgijmipaaEv
