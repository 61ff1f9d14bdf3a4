/- A logic over abstract states for walks, twelfth part: forgetting, freezing results, calls that see a part of the heap alone. -/
import Derived.Test.YtepahgbgijmipaaEv11
namespace Go.Proofs.YtepahgbgijmipaaEv
open Go Go.RowKit

def mapO {α β : Type} (f : α → Option β) : List α → Option (List β)
  | [] => some []
  | a :: as => match f a, mapO f as with
    | some b, some bs => some (b :: bs)
    | _, _ => none
theorem mapO_map {α β γ : Type} {f : α → Option β} {g : γ → α} {k : γ → β} (hf : ∀ x, f (g x) = some (k x)) (xs : List γ) : mapO f (xs.map g) = some (xs.map k) := by
  induction xs with
  | nil => rfl
  | cons x xs ih => simp [mapO, hf, ih]
theorem mapO_mem {α β : Type} {f : α → Option β} : ∀ {as : List α} {bs : List β}, mapO f as = some bs → as.length = bs.length ∧ ∀ (j : Nat) (h1 : j < as.length) (h2 : j < bs.length), f as[j] = some bs[j]
  | [], bs, h => by simp [mapO] at h; subst h; simp
  | a :: as, bs, h => by
    simp only [mapO] at h
    split at h
    · rename_i b bs' h1 h2
      cases h
      obtain ⟨h3, h4⟩ := mapO_mem h2
      refine ⟨by simp [h3], fun j h5 h6 => ?_⟩
      cases j with
      | zero => exact h1
      | succ j => exact h4 j (by simpa using h5) (by simpa using h6)
    · cases h
theorem mapO_flatten {α β : Type} {f : α → Option β} : ∀ {es : List (List α)} {es' : List (List β)}, mapO (mapO f) es = some es' → mapO f es.flatten = some es'.flatten
  | [], es', h => by simp [mapO] at h; subst h; rfl
  | e :: es, es', h => by
    simp only [mapO] at h
    split at h
    · rename_i e' es2 h1 h2
      cases h
      have ih := mapO_flatten h2
      have app : ∀ (xs ys : List α) (xs' ys' : List β), mapO f xs = some xs' → mapO f ys = some ys' → mapO f (xs ++ ys) = some (xs' ++ ys') := by
        intro xs
        induction xs with
        | nil => intro ys xs' ys' h1 h2; simp [mapO] at h1; subst h1; simpa using h2
        | cons x xs ih =>
          intro ys xs' ys' h1 h2
          simp only [mapO] at h1
          split at h1
          · rename_i b bs g1 g2
            cases h1
            simp [mapO, g1, ih ys bs ys' g2 h2]
          · cases h1
      exact app e es.flatten e' es2.flatten h1 ih
    · cases h

/-- References lie below n. -/
inductive Under (n : Nat) : V → Prop
  | any : Under n .any
  | d (x : D) : Under n (.d x)
  | ip (cs : List D) (o : Nat) : Under n (.ip cs o)
  | ptr (id ver i o : Nat) (h : id < n) : Under n (.ptr id ver i o)
  | sl (id ver off len : Nat) (h : id < n) : Under n (.sl id ver off len)
  | agg (cs : List V) (h : ∀ c ∈ cs, Under n c) : Under n (.agg cs)
  | tup (cs : List V) (h : ∀ c ∈ cs, Under n c) : Under n (.tup cs)
  | fn (f : FuncId) (cs : List V) (h : ∀ c ∈ cs, Under n c) : Under n (.fn f cs)

section
variable {P : Program} {w : World} {S : Nat → Prop} {h : Hp} {m : Nat → Nat × Nat} {nx : Nat → Prop}

/-- A value in another view of the same world: the blocks that it may name are there in both, or not in the new one. -/
theorem RV.view {S' : Nat → Prop} {h' : Hp} {nx' : Nat} (hS : ∀ b, S b → S' b) (hh : ∀ i, i < nx' → h' i = h i ∨ h' i = none) {v : Value} {x : V} (hu : Under nx' x) (hv : RV w S h m nx v x) : RV w S' h' m (low nx') v x := by
  induction hv with
  | any v => exact .any v
  | d v x hd => exact .d v x (hd.mono hS fun _ _ => rfl)
  | ptr v id ver i o hlt hver hv =>
    cases hu with | ptr _ _ _ _ hid =>
    refine .ptr v id ver i o hid (fun B hB => ?_) (fun B hB he => ?_)
    · rcases hh id hid with h1 | h1
      · exact hver B (h1 ▸ hB)
      · rw [h1] at hB; cases hB
    · rcases hh id hid with h1 | h1
      · exact hv B (h1 ▸ hB) he
      · rw [h1] at hB; cases hB
  | ip b off o cs cells hSb hl hc hr => exact .ip b off o cs cells (hS b hSb) hl hc (fun j h1 h2 => (hr j h1 h2).mono hS fun _ _ => rfl)
  | sl v id ver off len hlt hver hv =>
    cases hu with | sl _ _ _ _ hid =>
    refine .sl v id ver off len hid (fun B hB => ?_) (fun B hB he => ?_)
    · rcases hh id hid with h1 | h1
      · exact hver B (h1 ▸ hB)
      · rw [h1] at hB; cases hB
    · rcases hh id hid with h1 | h1
      · exact hv B (h1 ▸ hB) he
      · rw [h1] at hB; cases hB
  | agg vs cs hl hr ih => cases hu with | agg _ hu => exact .agg vs cs hl fun j h1 h2 => ih j h1 h2 (hu _ (List.getElem_mem _))
  | tup vs cs hl hr ih => cases hu with | tup _ hu => exact .tup vs cs hl fun j h1 h2 => ih j h1 h2 (hu _ (List.getElem_mem _))
  | fn f vs cs hl hr ih => cases hu with | fn _ _ hu => exact .fn f vs cs hl fun j h1 h2 => ih j h1 h2 (hu _ (List.getElem_mem _))

/-- Forgetting: slots, and the blocks from a number on. -/
theorem Rel.weaken {E : Ent} {st st' : St} {a : Act} (hr : Rel E st a w) (hlo : st'.lo = st.lo) (hlo' : st.lo ≤ st'.nx) (_hnx : st'.nx ≤ st.nx) (hlen : st'.fr.length = st.fr.length)
    (hfr : ∀ (t : Nat) (h1 : t < st'.fr.length) (h2 : t < st.fr.length), st'.fr[t] = .any ∨ (st'.fr[t] = st.fr[t] ∧ Under st'.nx st.fr[t]))
    (hh : ∀ i, (i < st'.nx → st'.h i = st.h i) ∧ (st'.nx ≤ i → st'.h i = none)) (hb : ∀ i B, st'.h i = some B → ∀ e ∈ B.es, ∀ v ∈ e, Under st'.nx v) : Rel E st' a w := by
  obtain ⟨hE, S, m, e0, H, hl, hf, hd⟩ := hr
  have hold : ∀ i B, st'.h i = some B → st.h i = some B ∧ i < st'.nx := fun i B hB => by
    by_cases hi : i < st'.nx
    · exact ⟨by rw [← (hh i).1 hi]; exact hB, hi⟩
    · rw [(hh i).2 (by omega)] at hB; cases hB
  have hview : ∀ i, i < st'.nx → st'.h i = st.h i ∨ st'.h i = none := fun i hi => .inl ((hh i).1 hi)
  refine ⟨by omega, S, m, ⟨e0.os, e0.tape, e0.output, e0.size, fun i hi => by
    have : i < E.nx := hi
    show i < st'.nx
    omega, e0.sub, e0.sNew, e0.keep, fun i B' hi hB' => e0.ids i B' hi (hold i B' hB').1, fun i B' hB' => e0.img i B' (hold i B' hB').1⟩, ?_, by omega, fun t ht => ?_, hd⟩
  · refine ⟨fun b hb => ⟨(H.st b hb).1, fun i B hB => (H.st b hb).2 i B (hold i B hB).1⟩, fun i j B B' h1 h2 => H.inj i j B B' (hold i B h1).1 (hold j B' h2).1, fun i B hB => (hold i B hB).2, fun i B hB => ?_⟩
    obtain ⟨C, h1, h2, h3, h4, h5, h6, h7⟩ := H.blk i B (hold i B hB).1
    refine ⟨C, h1, h2, h3, h4, h5, h6, fun j a1 a2 => (h7 j a1 a2).view (fun _ h => h) hview ?_⟩
    have hmem := List.getElem_mem a2
    obtain ⟨e, he, hve⟩ := List.mem_flatten.1 hmem
    exact hb i B hB e he _ hve
  · rcases hfr t ht (by omega) with h1 | ⟨h1, h2⟩
    · rw [h1]; exact .any _
    · rw [h1]; exact (hf t (by omega)).view (fun _ h => h) hview h2

theorem Safe.weaken {c : Code} {st st' : St} {Q : Ex → St → Prop} (hs : Safe P c st' Q) (hw : ∀ E a w, Rel E st a w → Rel E st' a w) : Safe P c st Q := fun E a w hr => hs E a w (hw E a w hr)

/-! ### Freezing -/
/-- A value of the call's own memory, read by value. -/
def fzD (h : Hp) (k : Nat) : Nat → V → Option D
  | _, .d x => some x
  | n + 1, .sl id ver off len =>
    if k ≤ id then match rdBlk h id ver with
      | some B => (mapO (mapO (fzD h k n)) ((B.es.drop off).take len)).map (.ls B.s)
      | none => none
    else none
  | _, _ => none
def Fz (S : Nat → Prop) (h : Hp) (m : Nat → Nat × Nat) (k : Nat) (b : Nat) : Prop := S b ∨ ∃ i B, h i = some B ∧ k ≤ i ∧ (m i).1 = b

theorem fzD_sound (H : HR w S h m nx) (k : Nat) : ∀ (n : Nat) (v : Value) (x : V) (y : D), RV w S h m nx v x → fzD h k n x = some y → RD w (Fz S h m k) v y := by
  intro n
  induction n with
  | zero =>
    intro v x y hv he
    unfold fzD at he
    split at he
    · cases he
      cases hv with | d _ _ hd => exact hd.mono (fun b hb => .inl hb) fun _ _ => rfl
    · rename_i heq; cases heq
    · cases he
  | succ n ih =>
    intro v x y hv he
    unfold fzD at he
    split at he
    · cases he
      cases hv with | d _ _ hd => exact hd.mono (fun b hb => .inl hb) fun _ _ => rfl
    · rename_i n' id ver off len heq
      cases heq
      split at he
      · rename_i hk
        split at he
        · rename_i B hB
          obtain ⟨hB, hb⟩ := rdBlk_some hB
          cases hm : mapO (mapO (fzD h k n)) ((B.es.drop off).take len) with
          | none => simp [hm] at he
          | some es =>
            simp [hm] at he
            subst he
            cases hv with
            | sl _ _ _ _ _ hlt hver hv =>
              obtain ⟨hle, rfl⟩ := hv B hB hb
              obtain ⟨C, hC, hCl, hcap, hmax, hs, hone, hrr⟩ := H.blk id B hB
              have hfl := flatten_len B.s B.es hs
              obtain ⟨m1, m2⟩ := mapO_mem hm
              have hmf := mapO_flatten hm
              obtain ⟨f1, f2⟩ := mapO_mem hmf
              have hel : es.length = len := by rw [← m1]; simp; omega
              have hes : ∀ e ∈ es, e.length = B.s := fun e he => by
                obtain ⟨j, hj, rfl⟩ := List.mem_iff_getElem.1 he
                have := m2 j (by omega) hj
                obtain ⟨l1, _⟩ := mapO_mem this
                rw [← l1]
                exact hs _ (List.mem_of_mem_drop (List.mem_of_mem_take (List.getElem_mem _)))
              have htf := take_mul_flatten B.s B.es hs off len
              have hb1 : off * B.s + len * B.s ≤ B.es.flatten.length := by rw [hfl, ← Nat.add_mul]; exact Nat.mul_le_mul_right _ hle
              have hb2 : B.es.flatten.length ≤ C.length := by rw [hfl, hCl]; exact Nat.mul_le_mul_right _ hcap
              have hefl : es.flatten.length = len * B.s := by rw [flatten_len B.s es hes, hel]
              have key := RD.ls (w := w) (S := Fz S h m k) (m id).1 (off * B.s) ((m id).2 - off) B.s es ((C.drop (off * B.s)).take (len * B.s)) (.inr ⟨id, B, hB, hk, rfl⟩) (by omega) hes
                (by simp only [List.length_take, List.length_drop]; omega)
                (fun j hj => by
                  simp only [List.length_take, List.length_drop] at hj
                  rw [cell_of_row w _ _ _ _ _ hC]
                  simp only [List.getElem?_toArray, List.getElem_take, List.getElem_drop]
                  exact List.getElem?_eq_getElem (by omega))
                (fun j hj hj' => by
                  simp only [List.length_take, List.length_drop] at hj
                  have hj2 : j < ((B.es.drop off).take len).flatten.length := by omega
                  have h3 := f2 j hj2 hj'
                  have h4 := hrr (off * B.s + j) (by omega) (by omega)
                  have h5 : ((B.es.drop off).take len).flatten[j] = B.es.flatten[off * B.s + j] := by
                    rw [List.getElem_of_eq htf]; simp
                  rw [h5] at h3
                  have := ih _ _ _ h4 h3
                  simpa using this)
              rw [hel] at key
              exact key
        · cases he
      · cases he
    · cases he

def fz1 (h : Hp) (k n : Nat) : V → Option V
  | .agg cs => (mapO (fzD h k n) cs).map fun ds => .agg (ds.map .d)
  | v => (fzD h k n v).map .d
def fzV (h : Hp) (k n : Nat) : V → Option V
  | .tup cs => (mapO (fz1 h k n) cs).map .tup
  | v => fz1 h k n v

/-- No references at all. -/
inductive Pure1 : V → Prop
  | d (x : D) : Pure1 (.d x)
  | agg (ds : List D) : Pure1 (.agg (ds.map .d))
inductive PureV : V → Prop
  | one (v : V) (h : Pure1 v) : PureV v
  | tup (cs : List V) (h : ∀ c ∈ cs, Pure1 c) : PureV (.tup cs)

theorem Pure1.under {v : V} (hp : Pure1 v) (n : Nat) : Under n v := by
  cases hp with
  | d x => exact .d x
  | agg ds =>
    refine .agg _ fun c hc => ?_
    simp only [List.mem_map] at hc
    obtain ⟨x, _, rfl⟩ := hc
    exact .d x
theorem PureV.under {v : V} (hp : PureV v) (n : Nat) : Under n v := by
  cases hp with
  | one _ h => exact h.under n
  | tup cs h => exact .tup cs fun c hc => (h c hc).under n

theorem fz1_sound (H : HR w S h m nx) (k n : Nat) {v : Value} {x y : V} (hv : RV w S h m nx v x) (he : fz1 h k n x = some y) (h' : Hp) (m' : Nat → Nat × Nat) (nx' : Nat → Prop) : Pure1 y ∧ RV w (Fz S h m k) h' m' nx' v y := by
  unfold fz1 at he
  split at he
  · rename_i cs
    cases hm : mapO (fzD h k n) cs with
    | none => simp [hm] at he
    | some ds =>
      simp [hm] at he
      subst he
      refine ⟨.agg ds, ?_⟩
      obtain ⟨m1, m2⟩ := mapO_mem hm
      cases hv with
      | agg vs _ hl hr =>
        exact .agg vs _ (by simp; omega) fun j h1 h2 => by
          simp at h2
          rw [List.getElem_map]
          exact .d _ _ (fzD_sound H k n _ _ _ (hr j h1 (by omega)) (m2 j (by omega) h2))
  · cases hm : fzD h k n x with
    | none => simp [hm] at he
    | some d =>
      simp [hm] at he
      subst he
      exact ⟨.d d, .d _ _ (fzD_sound H k n _ _ _ hv hm)⟩

theorem fzV_sound (H : HR w S h m nx) (k n : Nat) {v : Value} {x y : V} (hv : RV w S h m nx v x) (he : fzV h k n x = some y) (h' : Hp) (m' : Nat → Nat × Nat) (nx' : Nat → Prop) : PureV y ∧ RV w (Fz S h m k) h' m' nx' v y := by
  unfold fzV at he
  split at he
  · rename_i cs
    cases hm : mapO (fz1 h k n) cs with
    | none => simp [hm] at he
    | some ys =>
      simp [hm] at he
      subst he
      obtain ⟨m1, m2⟩ := mapO_mem hm
      cases hv with
      | tup vs _ hl hr =>
        refine ⟨.tup ys fun c hc => ?_, .tup vs ys (by omega) fun j h1 h2 => (fz1_sound H k n (hr j h1 (by omega)) (m2 j (by omega) h2) h' m' nx').2⟩
        obtain ⟨j, hj, rfl⟩ := List.mem_iff_getElem.1 hc
        exact (fz1_sound H k n (hr j (by omega) (by omega)) (m2 j (by omega) hj) h' m' nx').1
  · obtain ⟨h1, h2⟩ := fz1_sound H k n hv he h' m' nx'
    exact ⟨.one _ h1, h2⟩

/-- A block whose cells are read by value. -/
def fzB (h : Hp) (k n : Nat) (B : Blk) : Option Blk := (mapO (mapO (fzD h k n)) B.es).map fun es => { B with es := es.map fun e => e.map .d }
def ofL (bx : List Blk) : Hp := fun i => bx[i]?
/-- The first k blocks, read by value. -/
def fzBs (h : Hp) (k n : Nat) : Option (List Blk) := mapO (fun i => (h i).bind (fzB h k n)) (List.range k)

def SameShape (bx bx' : List Blk) : Prop := bx.length = bx'.length ∧ ∀ (i : Nat) (h1 : i < bx.length) (h2 : i < bx'.length), bx'[i].T = bx[i].T ∧ bx'[i].s = bx[i].s ∧ bx'[i].ver = bx[i].ver ∧ bx'[i].es.length = bx[i].es.length
def PureB (B : Blk) : Prop := ∀ e ∈ B.es, ∀ v ∈ e, ∃ x, v = V.d x

/-- The contract of a function whose references are the passed blocks alone; its results are pure data. -/
def FnSpec (P : Program) (f : FuncId) (args : List V) (bx : List Blk) (R : V → List Blk → Prop) : Prop :=
  Spec P f args (ofL bx) bx.length fun r h' nx' => nx' = bx.length ∧ PureV r ∧ ∃ bx', h' = ofL bx' ∧ SameShape bx bx' ∧ (∀ B ∈ bx', PureB B) ∧ R r bx'

theorem FnSpec.mono {f : FuncId} {args : List V} {bx : List Blk} {R R' : V → List Blk → Prop} (hs : FnSpec P f args bx R) (hR : ∀ r b, R r b → R' r b) : FnSpec P f args bx R' :=
  Spec.mono hs fun _ _ _ ⟨h1, h2, bx', h3, h4, h5, h6⟩ => ⟨h1, h2, bx', h3, h4, h5, hR _ _ h6⟩

theorem FnSpec.of_spec {f : FuncId} {args : List V} {bx : List Blk} {R : V → List Blk → Prop}
    (hs : Spec P f args (ofL bx) bx.length fun r h' _ => ∃ n y bx', fzV h' bx.length n r = some y ∧ fzBs h' bx.length n = some bx' ∧ SameShape bx bx' ∧ R y bx') : FnSpec P f args bx R := fun w S m vs H ha =>
  (hs w S m vs H ha).mono fun _ w' ⟨v, _, h', _, S', m', h1, ⟨n, y, bx', h2, h3, h4, h5⟩, h6, h7, h8⟩ => by
    obtain ⟨g1, g2⟩ := fzV_sound h7 bx.length n h8 h2 (ofL bx') m' (low bx.length)
    obtain ⟨l1, l2⟩ := mapO_mem h3
    have hbl : bx'.length = bx.length := by simpa using l1.symm
    have hget : ∀ i (hi : i < bx'.length), ∃ B es, h' i = some B ∧ mapO (mapO (fzD h' bx.length n)) B.es = some es ∧ bx'[i] = { B with es := es.map fun e => e.map V.d } := fun i hi => by
      have := l2 i (by simp; omega) hi
      simp only [List.getElem_range] at this
      cases hB : h' i with
      | none => simp [hB] at this
      | some B =>
        simp only [hB, Option.bind_some, fzB] at this
        cases hm : mapO (mapO (fzD h' bx.length n)) B.es with
        | none => simp [hm] at this
        | some es => simp [hm] at this; exact ⟨B, es, rfl, hm, this.symm⟩
    have hofl : ∀ i B', ofL bx' i = some B' → ∃ hi : i < bx'.length, bx'[i] = B' := fun i B' hB' => by
      obtain ⟨hi, he⟩ := List.getElem?_eq_some_iff.1 hB'
      exact ⟨hi, he⟩
    have hfzS : ∀ b, Fz S' h' m' bx.length b → S b ∨ w.heap.size ≤ b := fun b hb => by
      rcases hb with hb | ⟨i, B, hB, hi, rfl⟩
      · exact h6.sNew b hb
      · rcases h6.img i B hB with ⟨B', hj, he⟩ | hge
        · obtain ⟨hj', _⟩ := List.getElem?_eq_some_iff.1 (show bx[i]? = some B' from hj)
          omega
        · exact .inr hge
    refine ⟨v, y, ofL bx', bx.length, Fz S' h' m' bx.length, m', h1, ⟨rfl, g1, bx', rfl, h4, fun B hB => ?_, h5⟩, ?_, ?_, g2⟩
    · obtain ⟨i, hi, rfl⟩ := List.mem_iff_getElem.1 hB
      obtain ⟨B0, es, _, _, hbe⟩ := hget i hi
      rw [hbe]
      intro e he v hv
      simp only [List.mem_map] at he
      obtain ⟨e', _, rfl⟩ := he
      simp only [List.mem_map] at hv
      obtain ⟨x, _, rfl⟩ := hv
      exact ⟨x, rfl⟩
    · refine ⟨h6.os, h6.tape, h6.output, h6.size, fun _ h => h, fun b hb => .inl (h6.sub b hb), hfzS, h6.keep, fun i B' hi hB' => ?_, fun i B' hB' => ?_⟩
      · obtain ⟨hi', hbe⟩ := hofl i B' hB'
        obtain ⟨B0, es, hB0, hm, hbe0⟩ := hget i hi'
        obtain ⟨B, hB, hv1, hs1⟩ := h6.ids i B0 hi hB0
        rw [← hbe, hbe0]
        have hml := (mapO_mem hm).1
        exact ⟨B, hB, hv1, fun he => ⟨(hs1 he).1, (hs1 he).2.1, by simp [← (hs1 he).2.2, hml]⟩⟩
      · obtain ⟨hi', hbe⟩ := hofl i B' hB'
        obtain ⟨B0, es, hB0, hm, hbe0⟩ := hget i hi'
        exact h6.img i B0 hB0
    · refine ⟨fun b hb => ⟨?_, fun i B' hB' => ?_⟩, fun i j B B' hB hB' he => ?_, fun i B hB => ?_, fun i B' hB' => ?_⟩
      · rcases hb with hb | ⟨i, B, hB, _, rfl⟩
        · exact (h7.st b hb).1
        · obtain ⟨C, hC, _⟩ := h7.blk i B hB
          exact (Array.getElem?_eq_some_iff.1 hC).1
      · obtain ⟨hi', hbe⟩ := hofl i B' hB'
        obtain ⟨B0, es, hB0, _, _⟩ := hget i hi'
        rcases hb with hb | ⟨j, B, hB, hj, rfl⟩
        · exact (h7.st b hb).2 i B0 hB0
        · intro he
          have := h7.inj i j B0 B hB0 hB he
          omega
      · obtain ⟨hi', _⟩ := hofl i B hB
        obtain ⟨hj', _⟩ := hofl j B' hB'
        obtain ⟨B0, _, hB0, _, _⟩ := hget i hi'
        obtain ⟨B1, _, hB1, _, _⟩ := hget j hj'
        exact h7.inj i j B0 B1 hB0 hB1 he
      · obtain ⟨hi', _⟩ := hofl i B hB
        show i < bx.length
        omega
      · obtain ⟨hi', hbe⟩ := hofl i B' hB'
        obtain ⟨B0, es, hB0, hm, hbe0⟩ := hget i hi'
        obtain ⟨C, c1, c2, c3, c4, c5, c6, c7⟩ := h7.blk i B0 hB0
        obtain ⟨ml, mm⟩ := mapO_mem hm
        obtain ⟨f1, f2⟩ := mapO_mem (mapO_flatten hm)
        rw [← hbe, hbe0]
        refine ⟨C, c1, c2, by simpa [← ml] using c3, c4, fun e he => ?_, c6, fun j a1 a2 => ?_⟩
        · simp only [List.mem_map] at he
          obtain ⟨e', he', rfl⟩ := he
          obtain ⟨q, hq, rfl⟩ := List.mem_iff_getElem.1 he'
          have := mm q (by omega) hq
          obtain ⟨l3, _⟩ := mapO_mem this
          simp [← l3, c5 _ (List.getElem_mem _)]
        · have hfe : (es.map fun e => e.map V.d).flatten = es.flatten.map V.d := by simp [List.map_flatten]
          simp only [hfe] at a2 ⊢
          rw [List.length_map] at a2
          rw [List.getElem_map]
          exact .d _ _ (fzD_sound h7 bx.length n _ _ _ (c7 j a1 (by omega)) (f2 j (by omega) a2))

end
end Go.Proofs.YtepahgbgijmipaaEv
