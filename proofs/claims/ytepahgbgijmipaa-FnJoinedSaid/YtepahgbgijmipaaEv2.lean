/- A logic over abstract states for walks, second part: what an operation that is no call comes to. -/
import Derived.Test.YtepahgbgijmipaaEv1
import Derived.Laws.MakeOwn
import Derived.Laws.CopyOwn
namespace Go.Proofs.YtepahgbgijmipaaEv
open Go Go.RowKit

theorem HR.bump {w : World} {S : Nat → Prop} {h : Hp} {m : Nat → Nat × Nat} {nx nx' : Nat → Prop} (r : HR w S h m nx) (hn : ∀ i, nx i → nx' i) : HR w S h m nx' := by
  have e : Ext w S h m nx w S h m nx' := ⟨rfl, rfl, rfl, Nat.le_refl _, hn, fun _ h => h, fun _ h => .inl h, fun _ _ _ => rfl,
    fun _ B' _ h => ⟨B', h, Nat.le_refl _, fun _ => ⟨rfl, rfl, rfl⟩⟩, fun i B' h => .inl ⟨B', h, rfl⟩⟩
  refine ⟨r.st, r.inj, fun i B h => hn _ (r.lt i B h), fun i B hB => ?_⟩
  obtain ⟨C, h1, h2, h3, h4, h5, ho, h6⟩ := r.blk i B hB
  exact ⟨C, h1, h2, h3, h4, h5, ho, fun j a b => (h6 j a b).ext e r⟩

theorem Ext.bump {w : World} {S : Nat → Prop} {h : Hp} {m : Nat → Nat × Nat} {nx nx' : Nat → Prop} (hn : ∀ i, nx i → nx' i) : Ext w S h m nx w S h m nx' :=
  ⟨rfl, rfl, rfl, Nat.le_refl _, hn, fun _ h => h, fun _ h => .inl h, fun _ _ _ => rfl,
    fun _ B' _ h => ⟨B', h, Nat.le_refl _, fun _ => ⟨rfl, rfl, rfl⟩⟩, fun i B' h => .inl ⟨B', h, rfl⟩⟩

/-- An operation has yielded v, and the heap is h' now. -/
def Yld (r : Result Next) (w : World) (S : Nat → Prop) (h : Hp) (m : Nat → Nat × Nat) (nx : Nat → Prop) (v : V) (h' : Hp) (nx' : Nat → Prop) : Prop :=
  ∃ cv w' S' m', (r = .ok (.value cv) w' ∨ (r = .ok .skip w' ∧ cv = undef)) ∧ Ext w S h m nx w' S' h' m' nx' ∧ HR w' S' h' m' nx' ∧ RV w' S' h' m' nx' cv v

theorem Yld.pure {r : Result Next} {w : World} {S : Nat → Prop} {h : Hp} {m : Nat → Nat × Nat} {nx nx' : Nat → Prop} {v : V} {cv : Value} (hr : r = .ok (.value cv) w)
    (H : HR w S h m nx) (hn : ∀ i, nx i → nx' i) (hv : RV w S h m nx cv v) : Yld r w S h m nx v h nx' :=
  ⟨cv, w, S, m, .inl hr, Ext.bump hn, H.bump hn, hv.ext (Ext.bump hn) H⟩

/-- What a constant stands for. -/
def ofCell : Value → V
  | .bool b => .d (.bool b)
  | .int k n => .d (.int k n)
  | .string s => .d (.str s)
  | .pointer none => .d .nilp
  | .slice none 0 0 => .d .nils
  | _ => .any
def ofVal : Value → V
  | .agg cs => .agg (cs.toList.map ofCell)
  | v => ofCell v
theorem ofCell_rv {w : World} {S : Nat → Prop} {h : Hp} {m : Nat → Nat × Nat} {nx : Nat → Prop} (v : Value) : RV w S h m nx v (ofCell v) := by
  unfold ofCell
  split <;> first | exact .any _ | (refine .d _ _ ?_; constructor)
theorem ofVal_rv {w : World} {S : Nat → Prop} {h : Hp} {m : Nat → Nat × Nat} {nx : Nat → Prop} (v : Value) : RV w S h m nx v (ofVal v) := by
  unfold ofVal
  split
  · rename_i cs
    have := RV.agg (w := w) (S := S) (h := h) (m := m) (nx := nx) cs.toList (cs.toList.map ofCell) (by simp) (fun j h1 h2 => by simpa using ofCell_rv _)
    simpa using this
  · exact ofCell_rv v

/-- Can v lie in one cell? -/
def V.one : V → Bool
  | .any | .agg _ | .tup _ => false
  | _ => true
theorem RD.one {w : World} {S : Nat → Prop} {v : Value} {x : D} (h : RD w S v x) : v.oneCell' = true := by cases h <;> rfl

/-- Is the reference's block there as it was? -/
def live (h : Hp) : V → Bool
  | .ptr id ver _ _ | .sl id ver _ _ => match h id with | some B => B.ver == ver | none => false
  | _ => true

def refs : V → List Nat
  | .ptr id _ _ _ | .sl id _ _ _ => [id]
  | _ => []

/-- The cells of a value. -/
def cellsV (h : Hp) : V → Option (List V)
  | .agg cs => if cs.all (fun c => live h c && c.one) then some cs else none
  | .any | .tup _ => none
  | v => if live h v then some [v] else none

theorem RV.one {w : World} {S : Nat → Prop} {h : Hp} {m : Nat → Nat × Nat} {nx : Nat → Prop} {v : Value} {x : V} (hv : RV w S h m nx v x) (hl : live h x = true)
    (hx : x.one = true) : v.oneCell' = true := by
  cases hv with
  | any => simp [V.one] at hx
  | d _ x hd => exact hd.one
  | ptr _ id ver i o hlt hver hv =>
    simp only [live] at hl
    split at hl
    · rename_i B hB
      obtain ⟨_, rfl⟩ := hv B hB (by simpa using hl)
      rfl
    · cases hl
  | ip => rfl
  | sl _ id ver i o hlt hver hv =>
    simp only [live] at hl
    split at hl
    · rename_i B hB
      obtain ⟨_, rfl⟩ := hv B hB (by simpa using hl)
      rfl
    · cases hl
  | agg => simp [V.one] at hx
  | tup => simp [V.one] at hx
  | fn => rfl

theorem oneCell_cells {v : Value} (h : v.oneCell' = true) : v.cells = #[v] := by cases v <;> first | rfl | cases h

/-- The cells of a concrete value, as the abstract ones say. -/
theorem cellsV_rv {w : World} {S : Nat → Prop} {h : Hp} {m : Nat → Nat × Nat} {nx : Nat → Prop} {v : Value} {x : V} {cs : List V} (hv : RV w S h m nx v x) (hx : cellsV h x = some cs) :
    v.cells.toList.length = cs.length ∧ (∀ (j : Nat) (h1 : j < v.cells.toList.length) (h2 : j < cs.length), RV w S h m nx v.cells.toList[j] cs[j]) ∧ (∀ u ∈ v.cells.toList, u.oneCell' = true) := by
  have single : ∀ {v : Value} {x : V}, RV w S h m nx v x → live h x = true → x.one = true →
      v.cells.toList.length = [x].length ∧ (∀ (j : Nat) (h1 : j < v.cells.toList.length) (h2 : j < [x].length), RV w S h m nx v.cells.toList[j] [x][j]) ∧ (∀ u ∈ v.cells.toList, u.oneCell' = true) := by
    intro v x hv hl hx
    have h1 := hv.one hl hx
    rw [oneCell_cells h1]
    refine ⟨rfl, fun j a b => ?_, fun u hu => by simp at hu; subst hu; exact h1⟩
    have : j = 0 := by simp at b; omega
    subst this
    exact hv
  cases hv with
  | any => simp [cellsV] at hx
  | tup => simp [cellsV] at hx
  | agg vs cs' hl hr =>
    simp only [cellsV] at hx
    split at hx
    · rename_i hall
      cases hx
      simp only [List.all_eq_true, Bool.and_eq_true] at hall
      refine ⟨by simpa [Value.cells] using hl, fun j h1 h2 => hr j (by simpa [Value.cells] using h1) h2, fun u hu => ?_⟩
      simp only [Value.cells] at hu
      obtain ⟨j, hj, rfl⟩ := List.mem_iff_getElem.1 hu
      have hc := hall _ (List.getElem_mem (show j < cs.length by omega))
      exact (hr j hj (by omega)).one hc.1 hc.2
    · cases hx
  | d _ x hd => simp only [cellsV, live, if_true, Option.some.injEq] at hx; subst hx; exact single (.d _ _ hd) rfl rfl
  | ptr v id ver i o hlt hver hv =>
    simp only [cellsV] at hx
    split at hx
    · rename_i hl; cases hx; exact single (.ptr v id ver i o hlt hver hv) hl rfl
    · cases hx
  | ip b off o cs' cells hS hl hc hr => simp only [cellsV, live, if_true, Option.some.injEq] at hx; subst hx; exact single (.ip b off o cs' cells hS hl hc hr) rfl rfl
  | sl v id ver i o hlt hver hv =>
    simp only [cellsV] at hx
    split at hx
    · rename_i hl; cases hx; exact single (.sl v id ver i o hlt hver hv) hl rfl
    · cases hx
  | fn f vs cs' hl hr => simp only [cellsV, live, if_true, Option.some.injEq] at hx; subst hx; exact single (.fn f vs cs' hl hr) rfl rfl

/-- The heap with one block turned. -/
def Hp.upd (h : Hp) (i : Nat) (B : Blk) : Hp := fun j => if j = i then some B else h j

/-- A new block: under a new number, or in the place of an elder one (whose references are stale from here on). -/
theorem HR.alloc {w w1 : World} {S : Nat → Prop} {h : Hp} {m : Nat → Nat × Nat} {nx nx' : Nat → Prop} (H : HR w S h m nx) (hheap : w1.heap = w.heap) (hos : w1.os = w.os) (htape : w1.tape = w.tape) (hout : w1.output = w.output)
    (id : Nat) (hn : ∀ i, nx i → nx' i) (hid' : nx' id) (B : Blk) (hid : ¬ nx id ∨ ∃ B0, h id = some B0 ∧ B0.ver < B.ver) (cap : Nat) (C : List Value)
    (hC : C.length = cap * B.s) (hcap : B.es.length ≤ cap) (hmax : cap ≤ maxLen) (hs : ∀ e ∈ B.es, e.length = B.s) (hone : ∀ u ∈ C, u.oneCell' = true)
    (hr : ∀ (j : Nat) (h1 : j < C.length) (h2 : j < B.es.flatten.length), RV w S h m nx C[j] B.es.flatten[j]) :
    Ext w S h m nx (w1.alloc (.cells C.toArray B.T)) S (h.upd id B) (fun j => if j = id then (w.heap.size, cap) else m j) nx' ∧
    HR (w1.alloc (.cells C.toArray B.T)) S (h.upd id B) (fun j => if j = id then (w.heap.size, cap) else m j) nx' := by
  have hsz1 : w1.heap.size = w.heap.size := by rw [hheap]
  have hsz : (w1.alloc (.cells C.toArray B.T)).heap.size = w.heap.size + 1 := by simp [hsz1]
  have hold : ∀ b, b < w.heap.size → (w1.alloc (.cells C.toArray B.T)).heap[b]? = w.heap[b]? := fun b hb => by
    rw [heap_alloc_old w1 _ b (by omega), hheap]
  have e : Ext w S h m nx (w1.alloc (.cells C.toArray B.T)) S (h.upd id B) (fun j => if j = id then (w.heap.size, cap) else m j) nx' := by
    refine ⟨hos, htape, hout, by omega, hn, fun _ h => h, fun _ h => .inl h, fun b hb _ => hold b hb, ?_, ?_⟩
    · intro i B' hi hB'
      by_cases hne : i = id
      · subst hne
        rcases hid with hid | ⟨B0, h0, h1⟩
        · exact absurd hi hid
        · simp only [Hp.upd, if_true, Option.some.injEq] at hB'
          subst hB'
          exact ⟨B0, h0, by omega, fun he => by omega⟩
      · simp only [Hp.upd, if_neg hne] at hB'
        exact ⟨B', hB', Nat.le_refl _, fun _ => ⟨by simp [hne], rfl, rfl⟩⟩
    · intro i B' hB'
      by_cases hne : i = id
      · subst hne; exact .inr (by simp)
      · simp only [Hp.upd, if_neg hne] at hB'
        exact .inl ⟨B', hB', by simp [hne]⟩
  have himg : ∀ i B', h i = some B' → (m i).1 < w.heap.size := fun i B' hB' => by
    obtain ⟨C', h1, _⟩ := H.blk i B' hB'
    exact (Array.getElem?_eq_some_iff.1 h1).1
  refine ⟨e, ⟨fun b hb => ?_, ?_, ?_, ?_⟩⟩
  · refine ⟨by have := (H.st b hb).1; omega, fun i B' hB' => ?_⟩
    by_cases hne : i = id
    · subst hne; simp; have := (H.st b hb).1; omega
    · simp only [Hp.upd, if_neg hne] at hB'
      simpa [hne] using (H.st b hb).2 i B' hB'
  · intro i j B1 B2 h1 h2 he
    by_cases hi : i = id
    · by_cases hj : j = id
      · omega
      · simp only [Hp.upd, if_neg hj] at h2
        simp only [hi, if_true, if_neg hj] at he
        have := himg j B2 h2; omega
    · by_cases hj : j = id
      · simp only [Hp.upd, if_neg hi] at h1
        simp only [hj, if_true, if_neg hi] at he
        have := himg i B1 h1; omega
      · simp only [Hp.upd, if_neg hi] at h1
        simp only [Hp.upd, if_neg hj] at h2
        simp only [if_neg hi, if_neg hj] at he
        exact H.inj i j B1 B2 h1 h2 he
  · intro i B' hB'
    by_cases hi : i = id
    · rw [hi]; exact hid'
    · simp only [Hp.upd, if_neg hi] at hB'
      exact hn _ (H.lt i B' hB')
  · intro i B' hB'
    by_cases hi : i = id
    · subst hi
      simp only [Hp.upd, if_true, Option.some.injEq] at hB'
      subst hB'
      have hnew := heap_alloc_new w1 (.cells C.toArray B.T)
      rw [hsz1] at hnew
      refine ⟨C, by simpa using hnew, by simpa using hC, by simpa using hcap, by simpa using hmax, hs, hone, fun j h1 h2 => (hr j h1 h2).ext e H⟩
    · simp only [Hp.upd, if_neg hi] at hB'
      obtain ⟨C', h1, h2, h3, h4, h5, ho, h6⟩ := H.blk i B' hB'
      refine ⟨C', ?_, by simpa [hi] using h2, by simpa [hi] using h3, by simpa [hi] using h4, h5, ho, fun j a b => (h6 j a b).ext e H⟩
      simp only [if_neg hi]
      rw [hold _ (himg i B' hB')]
      exact h1

/-- A block's contents turned in place. -/
theorem HR.write {w : World} {S : Nat → Prop} {h : Hp} {m : Nat → Nat × Nat} {nx : Nat → Prop} (H : HR w S h m nx) (id : Nat) (B B' : Blk) (hB : h id = some B) (hT : B'.T = B.T) (hS : B'.s = B.s)
    (hver : B.ver ≤ B'.ver) (hlen : B.ver = B'.ver → B'.es.length = B.es.length) (hcap : B'.es.length ≤ (m id).2) (hs : ∀ e ∈ B'.es, e.length = B'.s) (C C' : List Value)
    (hw : w.heap[(m id).1]? = some (.cells C.toArray B.T (0, 0))) (hC : C'.length = C.length) (hone : ∀ u ∈ C', u.oneCell' = true)
    (hr : ∀ (j : Nat) (h1 : j < C'.length) (h2 : j < B'.es.flatten.length), RV w S h m nx C'[j] B'.es.flatten[j]) :
    Ext w S h m nx (w.setRow (m id).1 C'.toArray) S (h.upd id B') m nx ∧ HR (w.setRow (m id).1 C'.toArray) S (h.upd id B') m nx := by
  have e : Ext w S h m nx (w.setRow (m id).1 C'.toArray) S (h.upd id B') m nx := by
    refine ⟨rfl, rfl, rfl, by simp, fun _ h => h, fun _ h => h, fun _ h => .inl h, fun b hb hno => setRow_other w _ b _ (fun he => hno id B hB he.symm), ?_, ?_⟩
    · intro i A _ hA
      by_cases hi : i = id
      · subst hi
        simp only [Hp.upd, if_true, Option.some.injEq] at hA
        subst hA
        exact ⟨B, hB, hver, fun he => ⟨rfl, hS, hlen he⟩⟩
      · simp only [Hp.upd, if_neg hi] at hA
        exact ⟨A, hA, Nat.le_refl _, fun _ => ⟨rfl, rfl, rfl⟩⟩
    · intro i A hA
      by_cases hi : i = id
      · subst hi; exact .inl ⟨B, hB, rfl⟩
      · simp only [Hp.upd, if_neg hi] at hA
        exact .inl ⟨A, hA, rfl⟩
  refine ⟨e, ⟨fun b hb => ⟨by simpa using (H.st b hb).1, fun i A hA => ?_⟩, ?_, ?_, ?_⟩⟩
  · by_cases hi : i = id
    · subst hi; exact (H.st b hb).2 i B hB
    · simp only [Hp.upd, if_neg hi] at hA; exact (H.st b hb).2 i A hA
  · intro i j B1 B2 h1 h2 he
    have get : ∀ i B1, (h.upd id B') i = some B1 → ∃ A, h i = some A := fun i B1 h1 => by
      by_cases hi : i = id
      · subst hi; exact ⟨B, hB⟩
      · simp only [Hp.upd, if_neg hi] at h1; exact ⟨B1, h1⟩
    obtain ⟨A1, a1⟩ := get i B1 h1
    obtain ⟨A2, a2⟩ := get j B2 h2
    exact H.inj i j A1 A2 a1 a2 he
  · intro i A hA
    by_cases hi : i = id
    · subst hi; exact H.lt i B hB
    · simp only [Hp.upd, if_neg hi] at hA; exact H.lt i A hA
  · intro i A hA
    by_cases hi : i = id
    · subst hi
      simp only [Hp.upd, if_true, Option.some.injEq] at hA
      subst hA
      obtain ⟨C0, h1, h2, h3, h4, h5, _, h6⟩ := H.blk i B hB
      have hcc : C0 = C := by
        have := hw.symm.trans h1
        simp at this
        exact this.symm
      subst hcc
      exact ⟨C', by rw [hT]; exact setRow_heap w _ _ _ _ _ hw, by rw [hC, hS]; exact h2, hcap, h4, hs, hone, fun j a b => (hr j a b).ext e H⟩
    · simp only [Hp.upd, if_neg hi] at hA
      obtain ⟨C0, h1, h2, h3, h4, h5, ho, h6⟩ := H.blk i A hA
      refine ⟨C0, ?_, h2, h3, h4, h5, ho, fun j a b => (h6 j a b).ext e H⟩
      rw [setRow_other w _ _ _ (fun he => hi (H.inj i id A B hA hB he))]
      exact h1

end Go.Proofs.YtepahgbgijmipaaEv
