/- Drawn tables: under the logic of abstract states. -/
import Derived.Test.YtepahgbgijmipaaJ1
import Derived.Test.YtepahgbgijmipaaEv29
namespace Go.Proofs.Ytepahgbgijmipaa
open Go Go.RowKit Go.Proofs.YtepahgbgijmipaaEv
set_option linter.unusedSimpArgs false
set_option linter.unusedVariables false
set_option maxRecDepth 4000

/-- A list as it was handed: nil where there is nothing. -/
def lsF (s : Nat) {α : Type} (f : α → List D) : List α → D
  | [] => .nils
  | x :: l => .ls s (f x :: l.map f)
def tabF (t : Tab) : List D := [I t.mem, I t.sets, I t.ways, I t.sline, I t.tlb, I t.costs.base, I t.costs.mul, I t.costs.mem, I t.costs.miss, I t.costs.walk, I t.costs.trap, I t.costs.line, I t.pad, I t.guard, I t.major, partsD t.parts, lsF 1 (fun x => [I x]) t.devs, lsF 4 chanD t.chans, lsF 3 slotD t.slots]
def tabL (t : Tab) : List D := [I t.mem, I t.sets, I t.ways, I t.sline, I t.tlb, I t.costs.base, I t.costs.mul, I t.costs.mem, I t.costs.miss, I t.costs.walk, I t.costs.trap, I t.costs.line, I t.pad, I t.guard, I t.major, partsD t.parts, devsD t.devs, chansD t.chans, slotsD t.slots]
theorem tabV_eq (t : Tab) : tabV t = .agg ((tabL t).map .d) := rfl
theorem lsF_le (s : Nat) {α : Type} (f : α → List D) (l : List α) : DLe (lsF s f l) (.ls s (l.map f)) := by
  cases l with
  | nil => exact .nils s
  | cons => exact .rfl' _
theorem tabF_le (t : Tab) : DLs (tabF t) (tabL t) := by
  unfold tabF tabL
  iterate 16 (refine .cons (.rfl' _) ?_)
  exact .cons (lsF_le _ _ _) (.cons (lsF_le _ _ _) (.cons (lsF_le _ _ _) .nil))
/-- What drawn tables are like. -/
structure DrawnT (t : Tab) : Prop where
  sound : SoundP t
  parts : 2 ≤ t.parts.length ∧ t.parts.length ≤ 4
  slots : t.slots.length ≤ 6
  names : ∀ p ∈ t.parts, p.name.size ≤ 8
theorem DrawnT.fits {t : Tab} (h : DrawnT t) : Fits t :=
  ⟨by have := h.parts; omega, by have := h.sound.ndevs; omega, by have := h.sound.nchans; omega, by have := h.slots; omega, fun p hp => by have := h.names p hp; omega⟩
theorem fz_intE (h : Hp) (k n : Nat) (xs : List Int) : mapO (mapO (fzD h k n)) (xs.map intE) = some (xs.map fun x => [I x]) := mapO_map (fun x => by simp only [mapO, fzD]) xs
theorem fz_slotE (h : Hp) (k n : Nat) (xs : List Slot) : mapO (mapO (fzD h k n)) (xs.map slotE) = some (xs.map slotD) := mapO_map (fun x => by simp only [mapO, fzD]; rfl) xs
theorem fz_partE (h : Hp) (k n : Nat) (xs : List PartR) : mapO (mapO (fzD h k n)) (xs.map partE) = some (xs.map partD) := mapO_map (fun x => by simp only [mapO, fzD]; rfl) xs
attribute [go_sem] fz_intE fz_slotE fz_partE

set_option maxHeartbeats 8000000 in
theorem tables_fz (c : Cur) (n : Int) (h : CurOk c) (hn : 2 ≤ n ∧ n ≤ 4) : FnSpec Try.prog 24 [.ptr 0 0 0 0, .d (I n)] [curB 79 c] fun r b => ∃ t c', DrawnT t ∧ CurOk c' ∧ b = [curB 79 c'] ∧ r = tabV t := by
  refine FnSpec.le (R := fun r b => ∃ t c', DrawnT t ∧ CurOk c' ∧ b = [curB 79 c'] ∧ r = .agg ((tabF t).map .d)) (FnOwn.frozen (tables_own c n h hn) fun r b hr => ?_) ?_
  · obtain ⟨t, c', h1, h2, h3, h4, h5, h6, rfl, hb⟩ := hr
    have hd : DrawnT t := ⟨h1, ⟨h2, h3⟩, h4, h5⟩
    clear h1 h4 h5
    obtain ⟨mem, sets, ways, sline, tlb, costs, pad, guard, major, parts, devs, chans, slots⟩ := t
    simp only at h2 h3
    rcases parts with _ | ⟨p0, _ | ⟨p1, ps⟩⟩
    · simp at h2
    · simp at h2
    · rcases slots with _ | ⟨s0, slots⟩
      · have hno : none ∉ b.map some := by simp
        rw [hb] at hno
        exact absurd (by simp [tabOB, lsB_nil]) hno
      · rcases devs with _ | ⟨d0, devs⟩ <;> rcases chans with _ | ⟨c0, chans⟩
        all_goals simp only [tabOB, partsB_two, winsB0_cons, winsB1_cons, lsB_nil, lsB_cons, List.isEmpty_nil, List.isEmpty_cons, if_true, if_false, reduceIte, reduceCtorEq, Bool.false_eq_true, List.append_nil, List.cons_append, List.nil_append] at hb
        · obtain rfl := map_some_inj (l := [_, _, _, _, _]) hb
          refine ⟨4, _, _, by simp only [go_sem, tabO, fz_wins, List.isEmpty_nil, List.isEmpty_cons, reduceIte, Bool.false_eq_true, ofL, List.getElem?_cons_succ, List.getElem?_cons_zero]; exact rfl, by simp only [go_sem, ofL, List.getElem?_cons_succ, List.getElem?_cons_zero]; exact rfl, ?_, ⟨_, c', hd, h6, rfl, rfl⟩⟩
          exact curB_shape _ _ _
        · obtain rfl := map_some_inj (l := [_, _, _, _, _, _]) hb
          refine ⟨4, _, _, by simp only [go_sem, tabO, fz_wins, List.isEmpty_nil, List.isEmpty_cons, reduceIte, Bool.false_eq_true, ofL, List.getElem?_cons_succ, List.getElem?_cons_zero]; exact rfl, by simp only [go_sem, ofL, List.getElem?_cons_succ, List.getElem?_cons_zero]; exact rfl, ?_, ⟨_, c', hd, h6, rfl, rfl⟩⟩
          exact curB_shape _ _ _
        · obtain rfl := map_some_inj (l := [_, _, _, _, _, _]) hb
          refine ⟨4, _, _, by simp only [go_sem, tabO, fz_wins, List.isEmpty_nil, List.isEmpty_cons, reduceIte, Bool.false_eq_true, ofL, List.getElem?_cons_succ, List.getElem?_cons_zero]; exact rfl, by simp only [go_sem, ofL, List.getElem?_cons_succ, List.getElem?_cons_zero]; exact rfl, ?_, ⟨_, c', hd, h6, rfl, rfl⟩⟩
          exact curB_shape _ _ _
        · obtain rfl := map_some_inj (l := [_, _, _, _, _, _, _]) hb
          refine ⟨4, _, _, by simp only [go_sem, tabO, fz_wins, List.isEmpty_nil, List.isEmpty_cons, reduceIte, Bool.false_eq_true, ofL, List.getElem?_cons_succ, List.getElem?_cons_zero]; exact rfl, by simp only [go_sem, ofL, List.getElem?_cons_succ, List.getElem?_cons_zero]; exact rfl, ?_, ⟨_, c', hd, h6, rfl, rfl⟩⟩
          exact curB_shape _ _ _
  · rintro r b ⟨t, c', h1, h2, rfl, rfl⟩
    exact ⟨tabF t, tabL t, rfl, tabF_le t, t, c', h1, h2, rfl, tabV_eq t⟩

@[go_sem high] theorem liftB_cur (ids : List Nat) (nx T : Nat) (c : Cur) : liftB ids nx (curB T c) = curB T c := rfl
@[go_sem high] theorem liftE_cur (ids : List Nat) (nx T : Nat) (c : Cur) : (⟨(curB T c).T, (curB T c).s, (curB T c).ver, List.map (fun e => List.map (liftV ids nx) e) (curB T c).es⟩ : Blk) = curB T c := rfl
@[go_sem high] theorem liftN_nil (nx j : Nat) : liftN [] nx j = nx + j := by simp [liftN]

set_option maxHeartbeats 8000000 in
theorem draw_spec (code : List Int) (hl : code.length ≤ 1048576) (hb : ∀ x ∈ code, 0 ≤ x ∧ x ≤ 255) : FnSpec Try.prog 7 [.d (codeD code)] [] fun r b => ∃ t, DrawnT t ∧ r = tabV t ∧ b = [] := by
  refine FnSpec.go (nt := 11) (rs := [.cell 2 33]) Try.func7 ?_
  repeat' (first | (with_reducible refine Safe.seq ?_) | (with_reducible refine Safe.regionL ?_) | (with_reducible refine and_n ?_) | (with_reducible refine and_r ?_) | (with_reducible refine and_e ?_) | (with_reducible refine in_n ?_) | (with_reducible refine in_r ?_) | (with_reducible refine in_e ?_) | (with_reducible refine in_o (by decide) ?_) | (with_reducible refine SafeL.nil ?_) | (with_reducible refine Safe.skip ?_) | (with_reducible refine Safe.label ?_) | (with_reducible refine Safe.exit ?_) | (with_reducible refine Safe.block ?_) | ((with_reducible apply SafeL.step); (· (simp (disch := omega) only [go_sem]; exact rfl))) | (with_reducible refine Safe.ret ?_) | ((first | with_reducible apply RetP.en | with_reducible apply RetP.en'); (iterate 4 (· (simp only [go_sem]; exact rfl)))) | (with_reducible exact SameShape.nil) | (exact SameShape.rfl' _) | ((with_reducible refine SameShape.cons ?_ ?_); (· first | rfl | (simp only [go_sem]; done))) | (with_reducible refine Un.step ?_) | (exact curB_shape _ _ _) | fail)
  ((with_reducible refine SafeL.cgate ?_); apply SafeL.cO; (iterate 5 (· (simp only [go_sem]; exact rfl))); (· first | assumption | (simp only [go_sem]; done)); (· first | exact List.nodup_nil | decide); (· (repeat' (first | exact pure_nil | refine pure_cons (curB_pure _ _) ?_ | refine pure_cons (pureB1_sound ?_) ?_ | (simp only [go_sem]; done) | (simp only [go_sem, pureB1]; done)))); (· exact new_spec code hl hb); rintro _ _ ⟨rfl, h, rfl⟩; apply SafeL.nmx; (iterate 3 (· (simp only [go_sem]; exact rfl))))
  have h0 : CurOk ⟨code, 0, h⟩ := ⟨Nat.zero_le _, hl, hb⟩
  repeat' (first | (with_reducible refine Safe.seq ?_) | (with_reducible refine Safe.regionL ?_) | (with_reducible refine and_n ?_) | (with_reducible refine and_r ?_) | (with_reducible refine and_e ?_) | (with_reducible refine in_n ?_) | (with_reducible refine in_r ?_) | (with_reducible refine in_e ?_) | (with_reducible refine in_o (by decide) ?_) | (with_reducible refine SafeL.nil ?_) | (with_reducible refine Safe.skip ?_) | (with_reducible refine Safe.label ?_) | (with_reducible refine Safe.exit ?_) | (with_reducible refine Safe.block ?_) | ((with_reducible refine SafeL.cgate ?_); apply SafeL.cD; (iterate 5 (· (simp only [go_sem]; exact rfl))); (· first | assumption | (simp only [go_sem]; done)); (· first | exact List.nodup_nil | decide); (· (repeat' (first | exact pure_nil | refine pure_cons (pureB1_sound ?_) ?_ | (simp only [go_sem]; done) | (simp only [go_sem, pureB1]; done)))); (· first | (refine below_det _ _ _ ?_ <;> first | assumption | omega | (repeat' (first | assumption | apply belowC_ok | apply byteC_ok)))); rintro _ _ ⟨v, c1, hv, hc1, rfl, rfl⟩; apply SafeL.nm; (iterate 2 (· (simp only [go_sem]; exact rfl)))) | ((with_reducible apply SafeL.step); (· (simp (disch := omega) only [go_sem]; exact rfl))) | (with_reducible refine Safe.ret ?_) | ((first | with_reducible apply RetP.en | with_reducible apply RetP.en'); (iterate 4 (· (simp only [go_sem]; exact rfl)))) | (with_reducible exact SameShape.nil) | (exact SameShape.rfl' _) | ((with_reducible refine SameShape.cons ?_ ?_); (· first | rfl | (simp only [go_sem]; done))) | (with_reducible refine Un.step ?_) | (exact curB_shape _ _ _) | fail)
  ((with_reducible refine SafeL.cgate ?_); apply SafeL.cR; (iterate 5 (· (simp only [go_sem]; exact rfl))); (· first | assumption | (simp only [go_sem]; done)); (· first | exact List.nodup_nil | decide); (· (repeat' (first | exact pure_nil | refine pure_cons (curB_pure _ _) ?_ | refine pure_cons (pureB1_sound ?_) ?_ | (simp only [go_sem]; done) | (simp only [go_sem, pureB1]; done)))); (· exact tables_fz _ _ hc1 (by omega)); rintro _ _ ⟨t, c2, hd, hc2, rfl, rfl⟩; apply SafeL.nm; (iterate 2 (· (simp only [go_sem]; exact rfl))))
  repeat' (first | (with_reducible refine Safe.seq ?_) | (with_reducible refine Safe.regionL ?_) | (with_reducible refine and_n ?_) | (with_reducible refine and_r ?_) | (with_reducible refine and_e ?_) | (with_reducible refine in_n ?_) | (with_reducible refine in_r ?_) | (with_reducible refine in_e ?_) | (with_reducible refine in_o (by decide) ?_) | (with_reducible refine SafeL.nil ?_) | (with_reducible refine Safe.skip ?_) | (with_reducible refine Safe.label ?_) | (with_reducible refine Safe.exit ?_) | (with_reducible refine Safe.block ?_) | ((with_reducible apply SafeL.step); (· (simp (disch := omega) only [go_sem, tabV]; exact rfl))) | (with_reducible refine Safe.ret ?_) | ((first | with_reducible apply RetP.en | with_reducible apply RetP.en'); (iterate 4 (· (simp only [go_sem, tabV]; exact rfl)))) | (with_reducible exact SameShape.nil) | (exact SameShape.rfl' _) | ((with_reducible refine SameShape.cons ?_ ?_); (· first | rfl | (simp only [go_sem]; done))) | (with_reducible refine Un.step ?_) | (exact curB_shape _ _ _) | fail)
  exact ⟨t, hd, rfl, rfl⟩
end Go.Proofs.Ytepahgbgijmipaa
