/- A logic over abstract states for walks, thirteenth part: calls by contract. -/
import Derived.Test.YtepahgbgijmipaaEv12
namespace Go.Proofs.YtepahgbgijmipaaEv
open Go Go.RowKit

/-- A value as the callee sees it: references to the passed blocks alone, under numbers of their own. -/
inductive Arg (ids : List Nat) : V → V → Prop
  | d (x : D) : Arg ids (.d x) (.d x)
  | ip (cs : List D) (o : Nat) : Arg ids (.ip cs o) (.ip cs o)
  | ptr (id ver i o j : Nat) (h : ids[j]? = some id) : Arg ids (.ptr id ver i o) (.ptr j ver i o)
  | sl (id ver off len j : Nat) (h : ids[j]? = some id) : Arg ids (.sl id ver off len) (.sl j ver off len)
  | agg (ds : List D) : Arg ids (.agg (ds.map .d)) (.agg (ds.map .d))
  | fn (f : FuncId) (cs cs' : List V) (hl : cs.length = cs'.length) (h : ∀ (j : Nat) (h1 : j < cs.length) (h2 : j < cs'.length), Arg ids cs[j] cs'[j]) : Arg ids (.fn f cs) (.fn f cs')

/-- The heap with the passed blocks as the callee left them. -/
def Hp.back (h : Hp) : List (Nat × Blk) → Hp
  | [] => h
  | p :: r => (h.back r).upd p.1 p.2

theorem Hp.back_other {h : Hp} : ∀ {l : List (Nat × Blk)} {j : Nat}, j ∉ l.map (·.1) → h.back l j = h j
  | [], _, _ => rfl
  | p :: r, j, hj => by
    simp only [List.map_cons, List.mem_cons, not_or] at hj
    simp only [Hp.back, Hp.upd, if_neg hj.1]
    exact Hp.back_other hj.2
theorem Hp.back_at {h : Hp} : ∀ {ids : List Nat} {bx : List Blk} (_ : ids.Nodup) {j id : Nat} {B : Blk}, ids[j]? = some id → bx[j]? = some B → h.back (ids.zip bx) id = some B
  | [], _, _, j, id, B, h1, _ => by simp at h1
  | i :: ids, [], _, j, id, B, _, h2 => by simp at h2
  | i :: ids, b :: bx, hn, 0, id, B, h1, h2 => by
    simp at h1 h2; subst h1; subst h2
    simp [Hp.back, Hp.upd]
  | i :: ids, b :: bx, hn, j + 1, id, B, h1, h2 => by
    simp only [List.getElem?_cons_succ] at h1 h2
    have hne : id ≠ i := fun he => by
      subst he
      exact (List.nodup_cons.1 hn).1 (List.mem_of_getElem? h1)
    simp only [List.zip_cons_cons, Hp.back, Hp.upd, if_neg hne]
    exact Hp.back_at (List.nodup_cons.1 hn).2 h1 h2

section
variable {P : Program} {w : World} {S : Nat → Prop} {h : Hp} {m : Nat → Nat × Nat} {nx : Nat → Prop}

theorem rv_d {c : Value} {x : D} (hx : RV w S h m nx c (.d x)) : RD w S c x := by cases hx with | d _ _ hd => exact hd

theorem Arg.rv {ids : List Nat} {bx : List Blk} (hb : ∀ (j id : Nat), ids[j]? = some id → h id = bx[j]?) (hlt : ids.length = bx.length) {v : Value} {x x' : V} (ha : Arg ids x x') (hv : RV w S h m nx v x) :
    RV w S (ofL bx) (fun j => m (ids.getD j 0)) (low bx.length) v x' := by
  induction ha generalizing v with
  | d x => cases hv with | d _ _ hd => exact .d _ _ hd
  | ip cs o => cases hv with | ip b off _ _ cells hS hl hc hr => exact .ip b off o cs cells hS hl hc hr
  | ptr id ver i o j hj =>
    cases hv with
    | ptr _ _ _ _ _ hid hver hvv =>
      have hjl := (List.getElem?_eq_some_iff.1 hj).1
      have hg : ids.getD j 0 = id := by simp [List.getD_eq_getElem?_getD, hj]
      refine .ptr v j ver i o (show j < bx.length by omega) (fun B hB => hver B (by rw [hb j id hj]; exact hB)) (fun B hB he => ?_)
      simp only [hg]
      exact hvv B (by rw [hb j id hj]; exact hB) he
  | sl id ver off len j hj =>
    cases hv with
    | sl _ _ _ _ _ hid hver hvv =>
      have hjl := (List.getElem?_eq_some_iff.1 hj).1
      have hg : ids.getD j 0 = id := by simp [List.getD_eq_getElem?_getD, hj]
      refine .sl v j ver off len (show j < bx.length by omega) (fun B hB => hver B (by rw [hb j id hj]; exact hB)) (fun B hB he => ?_)
      simp only [hg]
      exact hvv B (by rw [hb j id hj]; exact hB) he
  | agg ds =>
    cases hv with
    | agg vs _ hl hr =>
      refine .agg vs _ hl fun j h1 h2 => ?_
      have := hr j h1 h2
      rw [List.getElem_map] at this ⊢
      exact .d _ _ (rv_d this)
  | fn f cs cs' hl' harg ih =>
    cases hv with
    | fn _ vs _ hl hr => exact .fn f vs cs' (by omega) fun j h1 h2 => ih j (by omega) h2 (hr j h1 (by omega))

theorem PureV.rv_any {S' : Nat → Prop} {h' : Hp} {m' : Nat → Nat × Nat} {nx' : Nat → Prop} {v : Value} {x : V} (hp : PureV x) (hv : RV w S h m nx v x) (hS : ∀ b, S b → S' b) : RV w S' h' m' nx' v x := by
  have p1 : ∀ {v : Value} {x : V}, Pure1 x → RV w S h m nx v x → RV w S' h' m' nx' v x := by
    intro v x hp hv
    cases hp with
    | d x => cases hv with | d _ _ hd => exact .d _ _ (hd.mono hS fun _ _ => rfl)
    | agg ds =>
      cases hv with
      | agg vs _ hl hr =>
        refine .agg vs _ hl fun j h1 h2 => ?_
        have := hr j h1 h2
        rw [List.getElem_map] at this ⊢
        exact .d _ _ ((rv_d this).mono hS fun _ _ => rfl)
  cases hp with
  | one _ h1 => exact p1 h1 hv
  | tup cs h1 =>
    cases hv with
    | tup vs _ hl hr => exact .tup vs cs hl fun j a b => p1 (h1 _ (List.getElem_mem _)) (hr j a b)

/-- The heap of the passed blocks. -/
theorem HR.part (H : HR w S h m nx) {ids : List Nat} {bx : List Blk} (hn : ids.Nodup) (hl : ids.length = bx.length) (hb : ∀ (j id : Nat), ids[j]? = some id → h id = bx[j]?) (hp : ∀ B ∈ bx, PureB B) :
    HR w S (ofL bx) (fun j => m (ids.getD j 0)) (low bx.length) := by
  have get : ∀ i B, ofL bx i = some B → ∃ id, ids[i]? = some id ∧ h id = some B ∧ ids.getD i 0 = id ∧ i < bx.length := fun i B hB => by
    obtain ⟨hi, he⟩ := List.getElem?_eq_some_iff.1 (show bx[i]? = some B from hB)
    have hi' : i < ids.length := by omega
    have hid : ids[i]? = some ids[i] := List.getElem?_eq_getElem hi'
    exact ⟨ids[i], hid, by rw [hb i _ hid]; exact hB, by simp [List.getD_eq_getElem?_getD, hid], hi⟩
  refine ⟨fun b hb' => ⟨(H.st b hb').1, fun i B hB => ?_⟩, fun i j B B' h1 h2 he => ?_, fun i B hB => ?_, fun i B hB => ?_⟩
  · obtain ⟨id, g1, g2, g3, _⟩ := get i B hB
    simp only [g3]
    exact (H.st b hb').2 id B g2
  · obtain ⟨id, g1, g2, g3, g4⟩ := get i B h1
    obtain ⟨id', k1, k2, k3, k4⟩ := get j B' h2
    simp only [g3, k3] at he
    have := H.inj id id' B B' g2 k2 he
    subst this
    obtain ⟨hi, e1⟩ := List.getElem?_eq_some_iff.1 g1
    obtain ⟨hj, e2⟩ := List.getElem?_eq_some_iff.1 k1
    exact (List.getElem_inj hn).1 (e1.trans e2.symm)
  · exact (get i B hB).choose_spec.2.2.2
  · obtain ⟨id, g1, g2, g3, _⟩ := get i B hB
    obtain ⟨C, c1, c2, c3, c4, c5, c6, c7⟩ := H.blk id B g2
    simp only [g3]
    refine ⟨C, c1, c2, c3, c4, c5, c6, fun j a1 a2 => ?_⟩
    have hmem := List.getElem_mem a2
    obtain ⟨e, he, hve⟩ := List.mem_flatten.1 hmem
    obtain ⟨x, hx⟩ := hp B (List.mem_of_getElem? (show bx[i]? = some B from hB)) e he _ hve
    have := c7 j a1 a2
    rw [hx] at this ⊢
    exact .d _ _ (rv_d this)

/-- A call that sees the passed blocks alone. -/
theorem FnSpec.callU {f : FuncId} {args args' : List V} {bx : List Blk} {R : V → List Blk → Prop} (hs : FnSpec P f args' bx R) {ids : List Nat} (hn : ids.Nodup) (hl : ids.length = bx.length)
    (hb : ∀ (j id : Nat), ids[j]? = some id → h id = bx[j]?) (hp : ∀ B ∈ bx, PureB B) (ha : All2 (Arg ids) args args') :
    ∀ (w : World) (S : Nat → Prop) (m : Nat → Nat × Nat) (U : Nat → Prop) (vs : List Value), HR w S h m U → All2 (RV w S h m U) vs args →
    Calls P f vs.toArray w fun e w' => ∃ v r bx' S', e = .returned v ∧ (SameShape bx bx' ∧ (∀ B ∈ bx', PureB B) ∧ PureV r ∧ R r bx') ∧ Ext w S h m U w' S' (h.back (ids.zip bx')) m U ∧ HR w' S' (h.back (ids.zip bx')) m U ∧ RV w' S' (h.back (ids.zip bx')) m U v r := fun w S m U vs H hvs => by
  have Hc := H.part hn hl hb hp
  have hvs' : All2 (RV w S (ofL bx) (fun j => m (ids.getD j 0)) (low bx.length)) vs args' :=
    ⟨hvs.1.trans ha.1, fun j h1 h2 => (ha.2 j (by have := ha.1; omega) h2).rv hb hl (hvs.2 j h1 (by have := ha.1; omega))⟩
  refine (hs w S _ vs Hc hvs').mono fun e w' ⟨v, r, h', nx', S', m', g1, ⟨g2, g3, bx', g4, g5, g6, g7⟩, g8, g9, g10⟩ => ?_
  subst g2; subst g4
  have hll : ids.length = bx'.length := hl.trans g5.1
  have idget : ∀ (j : Nat), j < ids.length → ids[j]? = some (ids.getD j 0) := fun j hj => by
    simp [List.getD_eq_getElem?_getD, List.getElem?_eq_getElem hj]
  -- the new heap
  have hat : ∀ (j id : Nat) (B : Blk), ids[j]? = some id → bx'[j]? = some B → (h.back (ids.zip bx')) id = some B := fun j id B h1 h2 => Hp.back_at hn h1 h2
  have hzip : (ids.zip bx').map (·.1) = ids := by rw [List.map_fst_zip]; omega
  have hother : ∀ id, id ∉ ids → (h.back (ids.zip bx')) id = h id := fun id hid => Hp.back_other (by rw [hzip]; exact hid)
  have hinv : ∀ id B, (h.back (ids.zip bx')) id = some B → (∃ j, ids[j]? = some id ∧ bx'[j]? = some B ∧ j < bx.length) ∨ (id ∉ ids ∧ h id = some B) := fun id B hB => by
    by_cases hid : id ∈ ids
    · obtain ⟨j, hj, rfl⟩ := List.mem_iff_getElem.1 hid
      have h1 : ids[j]? = some ids[j] := List.getElem?_eq_getElem hj
      have h2 : bx'[j]? = some bx'[j] := List.getElem?_eq_getElem (by omega)
      have := hat j _ _ h1 h2
      rw [this] at hB
      cases hB
      exact .inl ⟨j, h1, h2, by omega⟩
    · rw [hother id hid] at hB
      exact .inr ⟨hid, hB⟩
  -- a passed block stays where it was
  have hm : ∀ (j : Nat) (hj : j < bx.length) (hj' : j < bx'.length), m' j = m (ids.getD j 0) ∧ bx'[j].s = bx[j].s ∧ bx'[j].es.length = bx[j].es.length ∧ h (ids.getD j 0) = some bx[j] := fun j hj hj' => by
    obtain ⟨B, hB, hv, hsame⟩ := g8.ids j bx'[j] hj (List.getElem?_eq_getElem hj')
    have hB' : B = bx[j] := by
      have : bx[j]? = some B := hB
      rw [List.getElem?_eq_getElem hj] at this
      exact (Option.some.inj this).symm
    subst hB'
    obtain ⟨s1, s2, s3, s4⟩ := g5.2 j hj hj'
    refine ⟨(hsame s3.symm).1, s2, s4, ?_⟩
    rw [hb j _ (idget j (by omega)), List.getElem?_eq_getElem hj]
  have himgc : ∀ i B, ofL bx i = some B → ∃ id, id ∈ ids ∧ h id = some B ∧ ids.getD i 0 = id := fun i B hB => by
    obtain ⟨hi, he⟩ := List.getElem?_eq_some_iff.1 (show bx[i]? = some B from hB)
    have h1 := idget i (by omega)
    exact ⟨_, List.mem_of_getElem? h1, by rw [hb i _ h1]; exact hB, rfl⟩
  have e : Ext w S h m U w' S' (h.back (ids.zip bx')) m U := by
    refine ⟨g8.os, g8.tape, g8.output, g8.size, fun _ h => h, g8.sub, g8.sNew, fun b hb1 hb2 => g8.keep b hb1 fun i B hB => ?_, fun i B' hi hB' => ?_, fun i B' hB' => ?_⟩
    · obtain ⟨id, _, k2, k3⟩ := himgc i B hB
      simp only [k3]
      exact hb2 id B k2
    · rcases hinv i B' hB' with ⟨j, k1, k2, k3⟩ | ⟨_, k2⟩
      · obtain ⟨hj', rfl⟩ := List.getElem?_eq_some_iff.1 k2
        obtain ⟨q1, q2, q3, q4⟩ := hm j k3 hj'
        have hid : ids.getD j 0 = i := by simp [List.getD_eq_getElem?_getD, k1]
        rw [hid] at q4
        have s3 := (g5.2 j k3 hj').2.2.1
        exact ⟨bx[j], q4, by omega, fun _ => ⟨rfl, q2, q3⟩⟩
      · exact ⟨B', k2, Nat.le_refl _, fun _ => ⟨rfl, rfl, rfl⟩⟩
    · rcases hinv i B' hB' with ⟨j, k1, k2, k3⟩ | ⟨_, k2⟩
      · obtain ⟨hj', rfl⟩ := List.getElem?_eq_some_iff.1 k2
        have q4 := (hm j k3 hj').2.2.2
        have hid : ids.getD j 0 = i := by simp [List.getD_eq_getElem?_getD, k1]
        rw [hid] at q4
        exact .inl ⟨bx[j], q4, rfl⟩
      · exact .inl ⟨B', k2, rfl⟩
  have hold : ∀ i B', (h.back (ids.zip bx')) i = some B' → ∃ B, h i = some B := fun i B' hB' => by
    rcases hinv i B' hB' with ⟨j, k1, k2, k3⟩ | ⟨_, k2⟩
    · have q4 := (hm j k3 (by omega)).2.2.2
      have hid : ids.getD j 0 = i := by simp [List.getD_eq_getElem?_getD, k1]
      rw [hid] at q4
      exact ⟨_, q4⟩
    · exact ⟨B', k2⟩
  have hmlt : ∀ i B, h i = some B → (m i).1 < w.heap.size := fun i B hB => by
    obtain ⟨C, c1, _⟩ := H.blk i B hB
    exact (Array.getElem?_eq_some_iff.1 c1).1
  refine ⟨v, r, bx', S', g1, ⟨g5, g6, g3, g7⟩, e, ⟨fun b hb1 => ⟨(g9.st b hb1).1, fun i B' hB' => ?_⟩, fun i j B B' k1 k2 he => ?_, fun i B hB => ?_, fun i B' hB' => ?_⟩, g3.rv_any g10 fun _ hb => hb⟩
  · rcases hinv i B' hB' with ⟨j, k1, k2, k3⟩ | ⟨_, k2⟩
    · obtain ⟨hj', rfl⟩ := List.getElem?_eq_some_iff.1 k2
      have q1 := (hm j k3 hj').1
      have hid : ids.getD j 0 = i := by simp [List.getD_eq_getElem?_getD, k1]
      rw [hid] at q1
      rw [← q1]
      exact (g9.st b hb1).2 j _ k2
    · rcases g8.sNew b hb1 with h1 | h1
      · exact (H.st b h1).2 i B' k2
      · have := hmlt i B' k2; omega
  · obtain ⟨B1, a1⟩ := hold i B k1
    obtain ⟨B2, a2⟩ := hold j B' k2
    exact H.inj i j B1 B2 a1 a2 he
  · obtain ⟨B1, a1⟩ := hold i B hB
    exact H.lt i B1 a1
  · rcases hinv i B' hB' with ⟨j, k1, k2, k3⟩ | ⟨hno, k2⟩
    · obtain ⟨hj', hbe⟩ := List.getElem?_eq_some_iff.1 k2
      have q1 := (hm j k3 hj').1
      have hid : ids.getD j 0 = i := by simp [List.getD_eq_getElem?_getD, k1]
      rw [hid] at q1
      obtain ⟨C, c1, c2, c3, c4, c5, c6, c7⟩ := g9.blk j B' k2
      rw [← q1]
      refine ⟨C, c1, c2, c3, c4, c5, c6, fun t a1 a2 => ?_⟩
      have hmem := List.getElem_mem a2
      obtain ⟨el, he, hve⟩ := List.mem_flatten.1 hmem
      obtain ⟨x, hx⟩ := g6 B' (List.mem_of_getElem? k2) el he _ hve
      have := c7 t a1 a2
      rw [hx] at this ⊢
      exact .d _ _ (rv_d this)
    · obtain ⟨C, c1, c2, c3, c4, c5, c6, c7⟩ := H.blk i B' k2
      refine ⟨C, ?_, c2, c3, c4, c5, c6, fun t a1 a2 => (c7 t a1 a2).ext e H⟩
      rw [g8.keep _ (hmlt i B' k2) fun q B hB => ?_]
      · exact c1
      · obtain ⟨id, z1, z2, z3⟩ := himgc q B hB
        simp only [z3]
        intro he
        have := H.inj id i B B' z2 k2 he
        subst this
        exact hno z1

theorem FnSpec.call {nx : Nat} {f : FuncId} {args args' : List V} {bx : List Blk} {R : V → List Blk → Prop} (hs : FnSpec P f args' bx R) {ids : List Nat} (hn : ids.Nodup) (hl : ids.length = bx.length)
    (hb : ∀ (j id : Nat), ids[j]? = some id → h id = bx[j]?) (hp : ∀ B ∈ bx, PureB B) (ha : All2 (Arg ids) args args') :
    Spec P f args h nx fun r h' nx' => nx' = nx ∧ ∃ bx', h' = h.back (ids.zip bx') ∧ SameShape bx bx' ∧ (∀ B ∈ bx', PureB B) ∧ PureV r ∧ R r bx' := fun w S m vs H hvs =>
  (hs.callU hn hl hb hp ha w S m _ vs H hvs).mono fun _ _ ⟨v, r, bx', S', g1, ⟨g2, g3, g4, g5⟩, g6, g7, g8⟩ => ⟨v, r, _, nx, S', m, g1, ⟨rfl, bx', rfl, g2, g3, g4, g5⟩, g6, g7, g8⟩

/-- Plain values: of them no memory is read. -/
def flatD : D → Bool
  | .ls _ _ => false
  | _ => true
inductive Flat : V → Prop
  | d (x : D) (h : flatD x = true) : Flat (.d x)
  | agg (ds : List D) (h : ∀ x ∈ ds, flatD x = true) : Flat (.agg (ds.map .d))
theorem flat_rd {v : Value} {x : D} (hf : flatD x = true) {S S' : Nat → Prop} {w' : World} (hv : RD w S v x) : RD w' S' v x := by
  cases hv <;> first | (constructor; done) | (simp [flatD] at hf)
theorem Flat.rv {v : Value} {x : V} (hf : Flat x) {S' : Nat → Prop} {h' : Hp} {m' : Nat → Nat × Nat} {nx' : Nat → Prop} {w' : World} (hv : RV w S h m nx v x) : RV w' S' h' m' nx' v x := by
  cases hf with
  | d x hx => cases hv with | d _ _ hd => exact .d _ _ (flat_rd hx hd)
  | agg ds hx =>
    cases hv with
    | agg vs _ hl hr =>
      refine .agg vs _ hl fun j h1 h2 => ?_
      have := hr j h1 h2
      rw [List.getElem_map] at this ⊢
      exact .d _ _ (flat_rd (hx _ (List.getElem_mem _)) (rv_d this))

/-- A call that is handed what its caller's own blocks hold, read by value for the call's time; its results are plain. -/
theorem FnSpec.callReadU {f : FuncId} {args args' : List V} {R : V → List Blk → Prop} (hs : FnSpec P f args' [] R) {n : Nat} (ha : mapO (fz1 h 0 n) args = some args') (hf : ∀ r, R r [] → Flat r) :
    ∀ (w : World) (S : Nat → Prop) (m : Nat → Nat × Nat) (U : Nat → Prop) (vs : List Value), HR w S h m U → All2 (RV w S h m U) vs args →
    Calls P f vs.toArray w fun e w' => ∃ v r, e = .returned v ∧ R r [] ∧ Ext w S h m U w' S h m U ∧ HR w' S h m U ∧ RV w' S h m U v r := fun w S m U vs H hvs => by
  obtain ⟨l1, l2⟩ := mapO_mem ha
  have Hc : HR w (Fz S h m 0) (ofL []) m (low 0) := by
    refine ⟨fun b hb => ⟨?_, fun i B hB => by simp [ofL] at hB⟩, fun i j B B' h1 => by simp [ofL] at h1, fun i B hB => by simp [ofL] at hB, fun i B hB => by simp [ofL] at hB⟩
    rcases hb with hb | ⟨i, B, hB, _, rfl⟩
    · exact (H.st b hb).1
    · obtain ⟨C, c1, _⟩ := H.blk i B hB
      exact (Array.getElem?_eq_some_iff.1 c1).1
  have hvs' : All2 (RV w (Fz S h m 0) (ofL []) m (low 0)) vs args' :=
    ⟨hvs.1.trans l1, fun j h1 h2 => (fz1_sound H 0 n (hvs.2 j h1 (by omega)) (l2 j (by omega) h2) (ofL []) m (low 0)).2⟩
  refine (hs w _ _ vs Hc hvs').mono fun e w' ⟨v, r, h', nx', S', m', g1, ⟨g2, g3, bx', g4, g5, g6, g7⟩, g8, g9, g10⟩ => ?_
  have hbx : bx' = [] := List.eq_nil_of_length_eq_zero g5.1.symm
  subst hbx; subst g4
  have hkeep : ∀ b, b < w.heap.size → w'.heap[b]? = w.heap[b]? := fun b hb => g8.keep b hb fun i B hB => by simp [ofL] at hB
  have e : Ext w S h m U w' S h m U := ⟨g8.os, g8.tape, g8.output, g8.size, fun _ h => h, fun _ h => h, fun _ h => .inl h, fun b hb _ => hkeep b hb,
    fun i B' _ hB' => ⟨B', hB', Nat.le_refl _, fun _ => ⟨rfl, rfl, rfl⟩⟩, fun i B' hB' => .inl ⟨B', hB', rfl⟩⟩
  refine ⟨v, r, g1, g7, e, ⟨fun b hb => ⟨Nat.lt_of_lt_of_le (H.st b hb).1 g8.size, (H.st b hb).2⟩, H.inj, H.lt, fun i B hB => ?_⟩, (hf r g7).rv g10⟩
  obtain ⟨C, c1, c2, c3, c4, c5, c6, c7⟩ := H.blk i B hB
  exact ⟨C, by rw [hkeep _ (Array.getElem?_eq_some_iff.1 c1).1]; exact c1, c2, c3, c4, c5, c6, fun j a b => (c7 j a b).ext e H⟩

theorem FnSpec.callRead {nx : Nat} {f : FuncId} {args args' : List V} {R : V → List Blk → Prop} (hs : FnSpec P f args' [] R) {n : Nat} (ha : mapO (fz1 h 0 n) args = some args') (hf : ∀ r, R r [] → Flat r) :
    Spec P f args h nx fun r h' nx' => nx' = nx ∧ h' = h ∧ R r [] := fun w S m vs H hvs =>
  (hs.callReadU ha hf w S m _ vs H hvs).mono fun _ _ ⟨v, r, g1, g2, g3, g4, g5⟩ => ⟨v, r, h, nx, S, m, g1, ⟨rfl, rfl, g2⟩, g3, g4, g5⟩

end
end Go.Proofs.YtepahgbgijmipaaEv
