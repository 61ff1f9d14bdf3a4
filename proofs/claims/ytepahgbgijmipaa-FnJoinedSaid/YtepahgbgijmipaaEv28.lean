/- A logic over abstract states for walks, twenty-eighth part: regions that draw their order, of which some operations wait for others through third ones. -/
import Derived.Test.YtepahgbgijmipaaEv27
namespace Go.Proofs.YtepahgbgijmipaaEv
open Go Go.RowKit
section
variable {P : Program}
theorem AnyA.first2 {md : Region.Mode} {ops : Array Oper} {base : Nat} {log : Nat → Entry} {K : List V → Hp → Prop} {i : Nat} {oi : Oper} (hi : ops[i]? = some oi) (D : Nat → Prop) (hDe : ∀ j oj, D j → ops[j]? = some oj → ∃ e ∈ oj.after, Region.binds md e = true ∧ (e.on = i ∨ D e.on)) :
    ∀ (fuel : Nat) (listed : Array Bool) (fr : List V) (h : Hp),
      (∀ j, D j → listed.getD j true = false ∧ j < listed.size) → (∀ j oj, ops[j]? = some oj → j ≠ i → listed.getD j true = false → ¬ D j → (∀ e ∈ oj.after, Region.binds md e = true → e.on ≠ i) → Compat ops oi oj (log i) (log j)) →
      i ∈ Region.ready md ops listed → AOp P ops base i fr h (log i) →
      AnyA P md ops base log K fuel (listed.setIfInBounds i true) (put fr oi.dst (log i).1) (h.upds (log i).2.2) → AnyA P md ops base log K (fuel + 1) listed fr h := by
  have hdi : dstOf ops i = oi.dst := by simp [dstOf, hi]
  intro fuel
  induction fuel with
  | zero =>
    intro listed fr h _ _ hr hy H
    refine ⟨fun h => (by rw [h] at hr; cases hr), fun j hj => ?_⟩
    by_cases hji : j = i
    · subst hji; rw [hdi]; exact ⟨hy, H⟩
    · have := ready_mono hj hji
      rw [H.1] at this
      cases this
  | succ fuel ih =>
    intro listed fr h hDl hfree hr hy H
    refine ⟨fun h => (by rw [h] at hr; cases hr), fun j hj => ?_⟩
    by_cases hji : j = i
    · subst hji; rw [hdi]; exact ⟨hy, H⟩
    · obtain ⟨h1, h2⟩ := H.2 j (ready_mono hj hji)
      obtain ⟨hjun, oj, hoj, hall⟩ := mem_ready.1 hj
      have hdj : dstOf ops j = oj.dst := by simp [dstOf, hoj]
      have hnot : ∀ e ∈ oj.after, Region.binds md e = true → e.on ≠ i := fun e he hb heq => by
        have h1 := hall e he hb
        have h0 := (mem_ready.1 hr).1
        rw [heq] at h1
        rcases Nat.lt_or_ge i listed.size with h' | h'
        · simp [h'] at h0 h1; rw [h0] at h1; cases h1
        · simp [Array.getElem?_eq_none h'] at h1
      have hjD : ¬ D j := fun hD => by
        obtain ⟨e, he, hb, h3⟩ := hDe j oj hD hoj
        rcases h3 with h3 | h3
        · exact hnot e he hb h3
        · have h4 := hall e he hb
          obtain ⟨h5, h6⟩ := hDl _ h3
          simp [h6] at h4 h5
          rw [h5] at h4; cases h4
      have c := hfree j oj hoj hji hjun hjD hnot
      have hDl' : ∀ k, D k → (listed.setIfInBounds j true).getD k true = false ∧ k < (listed.setIfInBounds j true).size := fun k hk => by
        have hjk : j ≠ k := fun e => hjD (e ▸ hk)
        rw [getD_set_ne true hjk]
        exact ⟨(hDl k hk).1, by simpa using (hDl k hk).2⟩
      obtain ⟨a1, a2, a3⟩ := Oper.apart_spec c.apart
      have hyj : AOp P ops base j fr h (log j) := (AOp.shift hoj a1 fun k hk => (c.wr k hk).1).1 h1
      have hyi : AOp P ops base i (put fr oj.dst (log j).1) (h.upds (log j).2.2) (log i) := (AOp.shift hi a3 fun k hk => c.rw' k hk).2 hy
      have hfree' : ∀ k ok, ops[k]? = some ok → k ≠ i → (listed.setIfInBounds j true).getD k true = false → ¬ D k →
          (∀ e ∈ ok.after, Region.binds md e = true → e.on ≠ i) → Compat ops oi ok (log i) (log k) := fun k ok hk hki hun hkD hno => by
        refine hfree k ok hk hki ?_ hkD hno
        by_cases hjk : j = k
        · subst hjk; exact hjun
        · rw [getD_set_ne true hjk] at hun; exact hun
      rw [hdj] at h2 ⊢
      refine ⟨hyj, ih (listed.setIfInBounds j true) _ _ hDl' hfree' (ready_mono hr (Ne.symm hji)) hyi ?_⟩
      rw [Array.setIfInBounds_comm _ _ hji, put_comm (x := oj.dst) (fun d hd hd' => a2 d hd' hd), upds_comm (a := (log j).2.2) (fun k hk hk' => (c.wr k hk').2 hk)]
      exact h2

/-- The operations that come behind operation i, however the region is drawn. -/
def depC (ops : Array Oper) (i : Nat) (acc : List Nat) (j : Nat) : Bool := decide (i < j) && (match ops[j]? with | some oj => oj.after.any fun e => Region.binds .any e && (e.on == i || acc.contains e.on) | none => false)
def depStep (ops : Array Oper) (i : Nat) (acc : List Nat) (j : Nat) : List Nat := if depC ops i acc j = true then acc ++ [j] else acc
def deps (ops : Array Oper) (i : Nat) : List Nat := (List.range ops.size).foldl (depStep ops i) []
def DepOk (ops : Array Oper) (i : Nat) (acc : List Nat) : Prop := ∀ j ∈ acc, i < j ∧ j < ops.size ∧ ∀ oj, ops[j]? = some oj → ∃ e ∈ oj.after, Region.binds .any e = true ∧ (e.on = i ∨ e.on ∈ acc)
theorem depStep_ok {ops : Array Oper} {i : Nat} {acc : List Nat} (h : DepOk ops i acc) (j : Nat) : DepOk ops i (depStep ops i acc j) := by
  unfold depStep
  split
  · rename_i hc
    unfold depC at hc
    simp only [Bool.and_eq_true, decide_eq_true_eq] at hc
    obtain ⟨h1, h2⟩ := hc
    intro k hk
    rw [List.mem_append] at hk
    rcases hk with hk | hk
    · obtain ⟨a, b, c⟩ := h k hk
      refine ⟨a, b, fun oj hoj => ?_⟩
      obtain ⟨e, he, hb, h3⟩ := c oj hoj
      exact ⟨e, he, hb, h3.imp id fun q => List.mem_append_left _ q⟩
    · simp only [List.mem_singleton] at hk
      subst hk
      split at h2
      · rename_i oj hoj
        refine ⟨h1, (Array.getElem?_eq_some_iff.1 hoj).1, fun oj' hoj' => ?_⟩
        rw [hoj] at hoj'; cases hoj'
        obtain ⟨e, he, hb⟩ := Array.any_eq_true'.1 h2
        simp only [Bool.and_eq_true, Bool.or_eq_true, beq_iff_eq, List.contains_eq_mem, decide_eq_true_eq] at hb
        exact ⟨e, he, hb.1, hb.2.imp id fun q => List.mem_append_left _ q⟩
      · cases h2
  · exact h
theorem deps_ok (ops : Array Oper) (i : Nat) : DepOk ops i (deps ops i) := by
  have : ∀ (l acc : List Nat), DepOk ops i acc → DepOk ops i (l.foldl (depStep ops i) acc) := by
    intro l
    induction l with
    | nil => exact fun acc h => h
    | cons j l ih => exact fun acc h => ih _ (depStep_ok h j)
  exact this _ _ (fun j hj => by cases hj)
/-- What the operations look at and what they turn, of each two of which neither waits for the other. -/
def fpB2 (ops : Array Oper) (F : List (List Nat × List Nat)) : Bool :=
  (List.range F.length).all fun i => (fun D => (List.range F.length).all fun j => !decide (i < j) || List.contains D j ||
    (match F[i]?, F[j]? with
      | some a, some b => a.2.all (fun k => !b.1.contains k && !b.2.contains k) && b.2.all (fun k => !a.1.contains k)
      | _, _ => true)) (deps ops i)
theorem AnyA.lex2 {ops : Array Oper} {base : Nat} {log : Nat → Entry} {fr' : List V} {h' : Hp} {K : List V → Hp → Prop} (hK : K fr' h') {l : List Oper} {k : Nat} {fr : List V} {h : Hp} {L : List Entry} (hrun : LexRun P ops base l k fr h L fr' h') :
    ∀ (listed : Array Bool), (∀ j, l[j]? = ops[k + j]?) → Region.lexFrom .any ops l.length k listed = true → (∀ j (hj : j < L.length), L[j] = log (k + j)) → (∀ j, j < k → listed.getD j true = true) → (∀ j, k ≤ j → j < ops.size → listed.getD j true = false ∧ j < listed.size) →
    (∀ i j oi oj, i < j → ops[i]? = some oi → ops[j]? = some oj → j ∉ deps ops i → (∀ e ∈ oj.after, Region.binds .any e = true → e.on ≠ i) → oi.apart ops oj = true → Compat ops oi oj (log i) (log j)) →
    AnyA P .any ops base log K l.length listed fr h := by
  induction hrun with
  | nil k fr h => exact fun listed _ hB _ _ _ _ => ⟨by simpa [Region.lexFrom] using hB, hK⟩
  | @cons o l k fr fr' h h' e L hst _ ih =>
    intro listed hl hB hlog hdone hund hfp
    have h0 : ops[k]? = some o := by simpa using (hl 0).symm
    simp only [List.length_cons, Region.lexFrom, Bool.and_eq_true] at hB
    obtain ⟨⟨hr, hf⟩, hB'⟩ := hB
    have he : e = log k := hlog 0 (by simp)
    have hop : AOp P ops base k fr h (log k) := ⟨o, h0, by rw [← he]; exact hst⟩
    refine AnyA.first2 h0 (fun j => j ∈ deps ops k) (fun j oj hD hoj => (deps_ok ops k j hD).2.2 oj hoj) l.length listed fr h (fun j hD => by
        obtain ⟨a, b, _⟩ := deps_ok ops k j hD
        exact hund j (by omega) b) (fun j oj hj hne hun hjD hno => ?_) (by simpa using hr) hop ?_
    · have hap := Region.free_spec h0 hf j oj hj hne hun hno
      have hkj : k < j := by
        rcases Nat.lt_or_ge j k with h1 | h1
        · rw [hdone j h1] at hun; cases hun
        · omega
      exact hfp k j o oj hkj h0 hj hjD hno hap
    · rw [← he]
      refine ih hK _ (fun j => by have := hl (j + 1); simpa [Nat.add_assoc, Nat.add_comm 1 j] using this) hB' (fun j hj => ?_) (fun j hj => ?_) (fun j hj hjs => ?_) hfp
      · have := hlog (j + 1) (by simpa using hj)
        simpa [Nat.add_assoc, Nat.add_comm 1 j] using this
      · by_cases hkj : k = j
        · subst hkj
          by_cases hs : k < listed.size
          · simp [hs]
          · simp [hs]
        · rw [getD_set_ne true hkj]; exact hdone j (by omega)
      · rw [getD_set_ne true (by omega)]
        have := hund j (by omega) hjs
        exact ⟨this.1, by simpa using this.2⟩

/-- A region that draws its order: one walk in the text's order serves every order. -/
theorem Safe.regionD2 {i : Nat} {l : List Oper} {st : St} {Q : Ex → St → Prop} (hm : P.follows .mixedOrders = true) (hB : Region.lexB .any l.toArray = true) {L : List Entry} {fr' : List V} {h' : Hp}
    (hrun : LexRun P l.toArray st.nx l 0 st.fr st.h L fr' h') (hfp : fpB2 l.toArray (L.map foot) = true) (hQ : Q .normal ⟨fr', h', nxtD st.nx L, st.lo⟩) : Safe P (.region i l.toArray true) st Q := fun E a w hr => by
  have hlen := hrun.len
  simp only [Region.lexB, Bool.and_eq_true] at hB
  have hlog : ∀ j (hj : j < L.length), L[j] = (fun k => L.getD k (.any, [], [])) (0 + j) := fun j hj => by
    simp [List.getD_eq_getElem?_getD, List.getElem?_eq_getElem hj]
  have hany := AnyA.lex2 (log := fun k => L.getD k (.any, [], [])) (K := fun fr h => fr = fr' ∧ h = h') ⟨rfl, rfl⟩ hrun (Array.replicate l.toArray.size false) (fun j => by simp) (by simpa using hB.2) hlog (fun j hj => by omega) (fun j _ hj => by simp at hj; simp [hj])
    (fun i j oi oj hij hi hj hjD hno hap => by
      have hjl : j < l.length := by have := (Array.getElem?_eq_some_iff.1 hj).1; simpa using this
      have hiL : i < L.length := by omega
      have hjL : j < L.length := by omega
      have e1 : L.getD i (.any, [], []) = L[i] := by simp [List.getD_eq_getElem?_getD, List.getElem?_eq_getElem hiL]
      have e2 : L.getD j (.any, [], []) = L[j] := by simp [List.getD_eq_getElem?_getD, List.getElem?_eq_getElem hjL]
      simp only [e1, e2]
      unfold fpB2 at hfp
      simp only [List.all_eq_true, List.mem_range, List.length_map] at hfp
      have := hfp i hiL j hjL
      rw [List.getElem?_map, List.getElem?_map, List.getElem?_eq_getElem hiL, List.getElem?_eq_getElem hjL] at this
      simp only [Option.map_some, Bool.or_eq_true, Bool.not_eq_true', decide_eq_false_iff_not, List.contains_eq_mem, decide_eq_true_eq] at this
      rcases this with (h1 | h1) | h1
      · exact absurd hij h1
      · exact absurd h1 hjD
      · simp only [foot, Bool.and_eq_true, List.all_eq_true, Bool.not_eq_true', decide_eq_false_iff_not] at h1
        exact ⟨hap, fun k hk => ⟨of_decide_eq_false (h1.1 k hk).1, of_decide_eq_false (h1.1 k hk).2⟩, fun k hk => of_decide_eq_false (h1.2 k hk)⟩)
  have hr' : RelU E st.lo st.fr st.h (low st.nx) a { w with drawn := w.drawn + 1 } := by
    obtain ⟨hlo, S, m, e0, H, hl, hf, hd⟩ := hr
    have e1 : Ext w S st.h m (low st.nx) { w with drawn := w.drawn + 1 } S st.h m (low st.nx) := ⟨rfl, rfl, rfl, Nat.le_refl _, fun _ h => h, fun _ h => h, fun _ h => .inl h, fun _ _ _ => rfl,
      fun _ B' _ h => ⟨B', h, Nat.le_refl _, fun _ => ⟨rfl, rfl, rfl⟩⟩, fun i B' h => .inl ⟨B', h, rfl⟩⟩
    refine ⟨hlo, S, m, e0.trans e1, ⟨H.st, H.inj, H.lt, fun i B hB => ?_⟩, hl, fun t ht => (hf t ht).ext e1 H, hd⟩
    obtain ⟨C, c1, c2, c3, c4, c5, c6, c7⟩ := H.blk i B hB
    exact ⟨C, c1, c2, c3, c4, c5, c6, fun j a b => (c7 j a b).ext e1 H⟩
  refine wp_region_any hm (AnyA.sound (Q := PostC E Q) (lo := st.lo) (fun fr h U a w hU hk hr2 => ?_) _ _ _ _ (low st.nx) a _ (by simpa using hany) hr' (fun k hk => .inl hk) (fun k _ hk => by
    have : st.nx + k < st.nx := hk
    omega))
  obtain ⟨rfl, rfl⟩ := hk
  refine ⟨_, hQ, ?_⟩
  obtain ⟨hlo, S, m, e0, H, hl, hf, hd⟩ := hr2
  have hsub : ∀ k, U k → low (nxtD st.nx L) k := fun k hk => by
    unfold nxtD
    rcases hU k hk with h1 | ⟨j, hj, rfl, hj'⟩
    · show k < _
      split <;> omega
    · have hjL : j < L.length := by simp at hj; omega
      simp only [List.getElem?_eq_getElem hjL, Option.getD_some] at hj'
      rw [if_pos (by
        rw [List.any_eq_true]
        exact ⟨(L[j], j), by rw [List.mem_zipIdx_iff_getElem?]; exact List.getElem?_eq_getElem hjL, hj'⟩)]
      show st.nx + j < st.nx + L.length
      omega
  exact ⟨hlo, S, m, e0.trans (Ext.bump hsub), H.bump hsub, hl, fun t ht => (hf t ht).ext (Ext.bump hsub) H, hd⟩

theorem Safe.regionK2 {i : Nat} {l : List Oper} {fr : List V} {hl : List (Option Blk)} {nx lo : Nat} {Q : Ex → St → Prop} (hm : P.follows .mixedOrders = true) (hB : Region.lexB .any l.toArray = true)
    (h : LexK P l.toArray nx l 0 fr hl fun L fr' hl' => fpB2 l.toArray (L.map foot) = true ∧ ∃ nx', nxtD nx L = nx' ∧ Q .normal ⟨fr', hL hl', nx', lo⟩) : Safe P (.region i (List.toArray l) true) ⟨fr, hL hl, nx, lo⟩ Q := by
  obtain ⟨L, fr', hl', hrun, hfp, nx', hnx, hQ⟩ := h
  exact Safe.regionD2 hm hB hrun hfp (by rw [hnx]; exact hQ)
theorem LexK.en2 {ops : Array Oper} {L : List Entry} {fr : List V} {hl : List (Option Blk)} {nx' nx0 lo : Nat} {Q : Ex → St → Prop} (hf : fpB2 ops (L.map foot) = true) (hn : nxtD nx0 L = nx') (hQ : Q .normal ⟨fr, hL hl, nx', lo⟩) :
    fpB2 ops (L.map foot) = true ∧ ∃ nx', nxtD nx0 L = nx' ∧ Q .normal ⟨fr, hL hl, nx', lo⟩ := ⟨hf, nx', hn, hQ⟩
end
end Go.Proofs.YtepahgbgijmipaaEv
