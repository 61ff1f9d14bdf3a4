/- Small functions of the program under the logic of abstract states. -/
import Derived.Test.YtepahgbgijmipaaEv28
import Derived.Test.YtepahgbgijmipaaTy
namespace Go.Proofs.Ytepahgbgijmipaa
open Go Go.RowKit Go.Proofs.YtepahgbgijmipaaEv
set_option linter.unusedSimpArgs false
set_option linter.unusedVariables false
set_option maxRecDepth 4000
theorem leaf_f' {q : Prop} {dq : Decidable q} (h : ¬ q) : V.d (.bool (decide q)) = V.d (.bool false) := by simp [h]
abbrev I (x : Int) : D := .int .i64 x
/-- Whole numbers that are not great. -/
abbrev Sm (x : Int) : Prop := -1099511627776 ≤ x ∧ x ≤ 1099511627776

structure Slot where
  part : Int
  start : Int
  len : Int
structure Win where
  base : Int
  size : Int
  perm : Int
structure Chan where
  kind : Int
  frm : Int
  to : Int
  depth : Int
structure PartR where
  name : ByteArray
  entry : Int
  pkind : Int
  pmost : Int
  wins : List Win
structure Cst where
  base : Int
  mul : Int
  mem : Int
  miss : Int
  walk : Int
  trap : Int
  line : Int
structure Tab where
  mem : Int
  sets : Int
  ways : Int
  sline : Int
  tlb : Int
  costs : Cst
  pad : Int
  guard : Int
  major : Int
  parts : List PartR
  devs : List Int
  chans : List Chan
  slots : List Slot

def slotD (s : Slot) : List D := [I s.part, I s.start, I s.len]
def winD (w : Win) : List D := [I w.base, I w.size, I w.perm]
def chanD (r : Chan) : List D := [I r.kind, I r.frm, I r.to, I r.depth]
def winsD (ws : List Win) : D := .ls 3 (ws.map winD)
def partD (p : PartR) : List D := [.str p.name, I p.entry, I p.pkind, I p.pmost, winsD p.wins]
def devsD (l : List Int) : D := .ls 1 (l.map fun x => [I x])
def chansD (l : List Chan) : D := .ls 4 (l.map chanD)
def slotsD (l : List Slot) : D := .ls 3 (l.map slotD)
def partsD (l : List PartR) : D := .ls 5 (l.map partD)
def slotV (s : Slot) : V := .agg [.d (I s.part), .d (I s.start), .d (I s.len)]
def winV (w : Win) : V := .agg [.d (I w.base), .d (I w.size), .d (I w.perm)]
def chanV (r : Chan) : V := .agg [.d (I r.kind), .d (I r.frm), .d (I r.to), .d (I r.depth)]
def partV (p : PartR) : V := .agg [.d (.str p.name), .d (I p.entry), .d (I p.pkind), .d (I p.pmost), .d (winsD p.wins)]
def cstV (c : Cst) : V := .agg [.d (I c.base), .d (I c.mul), .d (I c.mem), .d (I c.miss), .d (I c.walk), .d (I c.trap), .d (I c.line)]
def shapeV (a b c : Int) : V := .agg [.d (I a), .d (I b), .d (I c)]
def tabV (t : Tab) : V := .agg [.d (I t.mem), .d (I t.sets), .d (I t.ways), .d (I t.sline), .d (I t.tlb), .d (I t.costs.base), .d (I t.costs.mul), .d (I t.costs.mem), .d (I t.costs.miss), .d (I t.costs.walk), .d (I t.costs.trap), .d (I t.costs.line), .d (I t.pad), .d (I t.guard), .d (I t.major), .d (partsD t.parts), .d (devsD t.devs), .d (chansD t.chans), .d (slotsD t.slots)]
attribute [go_sem] slotV winV chanV partV cstV shapeV tabV

theorem within_spec (n lo hi : Int) : FnSpec Try.prog 27 [.d (I n), .d (I lo), .d (I hi)] [] fun r b => r = .d (.bool (decide (lo ≤ n ∧ n ≤ hi))) ∧ b = [] := by
  refine FnSpec.go (nt := 15) (rs := [.tmp 6]) Try.func27 ?_
  repeat' (first | (with_reducible refine Safe.seq ?_) | (with_reducible refine Safe.regionL ?_) | (with_reducible refine and_n ?_) | (with_reducible refine and_r ?_) | (with_reducible refine and_e ?_) | (with_reducible refine in_n ?_) | (with_reducible refine in_r ?_) | (with_reducible refine in_e ?_) | (with_reducible refine in_o (by decide) ?_) | (with_reducible refine SafeL.nil ?_) | (with_reducible refine Safe.skip ?_) | (with_reducible refine Safe.label ?_) | (with_reducible refine Safe.exit ?_) | (with_reducible refine Safe.block ?_) | ((with_reducible apply SafeL.step); (· (simp (disch := omega) only [go_sem]; exact rfl))) | ((with_reducible refine SafeL.gate ?_); first | (apply SafeL.qY; (· exact rfl); (· (simp only [go_sem]; done))) | (apply SafeL.qN; (· exact rfl); (· (simp only [go_sem]; exact rfl)); (· (simp only [go_sem]; done)); (· (simp only [go_sem]; exact rfl))) | (apply SafeL.qU; (· exact rfl); (· (simp only [go_sem]; done)); (· (simp only [go_sem]; exact rfl))) | (apply SafeL.qT; (· exact rfl); (iterate 3 (· (simp only [go_sem]; exact rfl))); all_goals intro hg) | (apply SafeL.qF; (· exact rfl); (iterate 3 (· (simp only [go_sem]; exact rfl))); all_goals intro hg) | (apply SafeL.qB; (· exact rfl); (iterate 3 (· (simp only [go_sem]; exact rfl))); all_goals intro hg)) | (with_reducible refine Safe.ret ?_) | ((first | with_reducible apply RetP.en | with_reducible apply RetP.en'); (iterate 4 (· (simp only [go_sem]; exact rfl)))) | (with_reducible exact SameShape.nil) | (exact SameShape.rfl' _) | ((with_reducible refine SameShape.cons ?_ ?_); (· first | rfl | (simp only [go_sem]; done))) | (with_reducible refine Un.step ?_) | fail)
  all_goals (refine ⟨?_, rfl⟩; first | (refine leaf_d ?_) | (refine leaf_t ?_) | (refine leaf_f ?_))
  all_goals omega

theorem isSlotAt_spec (t : Tab) (s : Slot) (e : Int) (h1 : Sm t.pad) (h2 : Sm t.guard) (h3 : Sm t.major) (h4 : Sm s.len) (h5 : Sm s.start) :
    FnSpec Try.prog 100 [tabV t, slotV s, .d (I e)] [] fun r b => r = .d (.bool (decide (s.len > t.pad + t.guard ∧ s.len ≤ t.major ∧ s.start ≥ e ∧ s.start ≤ t.major - s.len))) ∧ b = [] := by
  refine FnSpec.go (nt := 38) (rs := [.tmp 6]) Try.func100 ?_
  repeat' (first | (with_reducible refine Safe.seq ?_) | (with_reducible refine Safe.regionL ?_) | (with_reducible refine and_n ?_) | (with_reducible refine and_r ?_) | (with_reducible refine and_e ?_) | (with_reducible refine in_n ?_) | (with_reducible refine in_r ?_) | (with_reducible refine in_e ?_) | (with_reducible refine in_o (by decide) ?_) | (with_reducible refine SafeL.nil ?_) | (with_reducible refine Safe.skip ?_) | (with_reducible refine Safe.label ?_) | (with_reducible refine Safe.exit ?_) | (with_reducible refine Safe.block ?_) | ((with_reducible apply SafeL.step); (· (simp (disch := omega) only [go_sem]; exact rfl))) | ((with_reducible refine SafeL.gate ?_); first | (apply SafeL.qY; (· exact rfl); (· (simp only [go_sem]; done))) | (apply SafeL.qN; (· exact rfl); (· (simp only [go_sem]; exact rfl)); (· (simp only [go_sem]; done)); (· (simp only [go_sem]; exact rfl))) | (apply SafeL.qU; (· exact rfl); (· (simp only [go_sem]; done)); (· (simp only [go_sem]; exact rfl))) | (apply SafeL.qT; (· exact rfl); (iterate 3 (· (simp only [go_sem]; exact rfl))); all_goals intro hg) | (apply SafeL.qF; (· exact rfl); (iterate 3 (· (simp only [go_sem]; exact rfl))); all_goals intro hg) | (apply SafeL.qB; (· exact rfl); (iterate 3 (· (simp only [go_sem]; exact rfl))); all_goals intro hg)) | (with_reducible refine Safe.ret ?_) | ((first | with_reducible apply RetP.en | with_reducible apply RetP.en'); (iterate 4 (· (simp only [go_sem]; exact rfl)))) | (with_reducible exact SameShape.nil) | (exact SameShape.rfl' _) | ((with_reducible refine SameShape.cons ?_ ?_); (· first | rfl | (simp only [go_sem]; done))) | (with_reducible refine Un.step ?_) | fail)
  all_goals (refine ⟨?_, rfl⟩; first | (refine leaf_d ?_) | (refine leaf_t ?_) | (refine leaf_f ?_))
  all_goals omega

theorem isMem_spec (n : Int) (h : 64 ≤ n ∧ n ≤ 2048 ∧ n.tmod 4 = 0) : FnSpec Try.prog 52 [.d (I n)] [] fun r b => r = .d (.bool true) ∧ b = [] := by
  refine FnSpec.go (nt := 10) (rs := [.tmp 2]) Try.func52 ?_
  repeat' (first | (with_reducible refine Safe.seq ?_) | (with_reducible refine Safe.regionL ?_) | (with_reducible refine and_n ?_) | (with_reducible refine and_r ?_) | (with_reducible refine and_e ?_) | (with_reducible refine in_n ?_) | (with_reducible refine in_r ?_) | (with_reducible refine in_e ?_) | (with_reducible refine in_o (by decide) ?_) | (with_reducible refine SafeL.nil ?_) | (with_reducible refine Safe.skip ?_) | (with_reducible refine Safe.label ?_) | (with_reducible refine Safe.exit ?_) | (with_reducible refine Safe.block ?_) | ((with_reducible refine SafeL.cgate ?_); apply SafeL.cA; (iterate 5 (· (simp only [go_sem]; exact rfl))); (· first | assumption | (simp only [go_sem]; done)); (· first | exact List.nodup_nil | decide); (· (repeat' (first | exact pure_nil | refine pure_cons (pureB1_sound ?_) ?_ | (simp only [go_sem]; done) | (simp only [go_sem, pureB1]; done)))); (· first | (exact within_spec _ _ _)); (iterate 2 (· (simp only [go_sem]; exact rfl)))) | ((with_reducible refine SafeL.cgate ?_); apply SafeL.cM; (iterate 3 (· (simp only [go_sem]; exact rfl))); (· (simp only [go_sem, Hp.less, List.mem_cons, List.not_mem_nil, or_false, or_true, false_or]; exact rfl)); (iterate 2 (· (simp only [go_sem]; exact rfl))); (· first | assumption | (simp only [go_sem]; done)); (· first | exact List.nodup_nil | decide); (· (repeat' (first | exact pure_nil | refine pure_cons (pureB1_sound ?_) ?_ | (simp only [go_sem]; done) | (simp only [go_sem, pureB1]; done)))); (· (repeat' (first | exact flat_nil | refine flat_cons (flatB_of ?_) ?_ | (simp only [go_sem]; done)))); (· first | (exact within_spec _ _ _)); (· exact .d _ rfl); (· (simp only [go_sem]; exact rfl))) | ((with_reducible apply SafeL.step); (· (simp (disch := omega) only [go_sem]; exact rfl))) | ((with_reducible refine SafeL.gate ?_); first | (apply SafeL.qY; (· exact rfl); (· (simp only [go_sem]; done))) | (apply SafeL.qN; (· exact rfl); (· (simp only [go_sem]; exact rfl)); (· (simp only [go_sem]; done)); (· (simp only [go_sem]; exact rfl))) | (apply SafeL.qU; (· exact rfl); (· (simp only [go_sem]; done)); (· (simp only [go_sem]; exact rfl))) | (apply SafeL.qT; (· exact rfl); (iterate 3 (· (simp only [go_sem]; exact rfl))); all_goals intro hg) | (apply SafeL.qF; (· exact rfl); (iterate 3 (· (simp only [go_sem]; exact rfl))); all_goals intro hg) | (apply SafeL.qB; (· exact rfl); (iterate 3 (· (simp only [go_sem]; exact rfl))); all_goals intro hg)) | (with_reducible refine Safe.ret ?_) | ((first | with_reducible apply RetP.en | with_reducible apply RetP.en'); (iterate 4 (· (simp only [go_sem]; exact rfl)))) | (with_reducible exact SameShape.nil) | (exact SameShape.rfl' _) | ((with_reducible refine SameShape.cons ?_ ?_); (· first | rfl | (simp only [go_sem]; done))) | (with_reducible refine Un.step ?_) | fail)
  all_goals first | (refine ⟨?_, rfl⟩; first | rfl | (refine leaf_t' ?_; first | omega | decide) | (refine leaf_f' ?_; first | omega | decide) | (exfalso; omega)) | (exfalso; omega) | fail

theorem isSpan_spec (n : Int) (h : 1 ≤ n ∧ n ≤ 5000) : FnSpec Try.prog 55 [.d (I n)] [] fun r b => r = .d (.bool true) ∧ b = [] := by
  refine FnSpec.go (nt := 5) (rs := [.tmp 2]) Try.func55 ?_
  repeat' (first | (with_reducible refine Safe.seq ?_) | (with_reducible refine Safe.regionL ?_) | (with_reducible refine and_n ?_) | (with_reducible refine and_r ?_) | (with_reducible refine and_e ?_) | (with_reducible refine in_n ?_) | (with_reducible refine in_r ?_) | (with_reducible refine in_e ?_) | (with_reducible refine in_o (by decide) ?_) | (with_reducible refine SafeL.nil ?_) | (with_reducible refine Safe.skip ?_) | (with_reducible refine Safe.label ?_) | (with_reducible refine Safe.exit ?_) | (with_reducible refine Safe.block ?_) | ((with_reducible refine SafeL.cgate ?_); apply SafeL.cA; (iterate 5 (· (simp only [go_sem]; exact rfl))); (· first | assumption | (simp only [go_sem]; done)); (· first | exact List.nodup_nil | decide); (· (repeat' (first | exact pure_nil | refine pure_cons (pureB1_sound ?_) ?_ | (simp only [go_sem]; done) | (simp only [go_sem, pureB1]; done)))); (· first | (exact within_spec _ _ _)); (iterate 2 (· (simp only [go_sem]; exact rfl)))) | ((with_reducible refine SafeL.cgate ?_); apply SafeL.cM; (iterate 3 (· (simp only [go_sem]; exact rfl))); (· (simp only [go_sem, Hp.less, List.mem_cons, List.not_mem_nil, or_false, or_true, false_or]; exact rfl)); (iterate 2 (· (simp only [go_sem]; exact rfl))); (· first | assumption | (simp only [go_sem]; done)); (· first | exact List.nodup_nil | decide); (· (repeat' (first | exact pure_nil | refine pure_cons (pureB1_sound ?_) ?_ | (simp only [go_sem]; done) | (simp only [go_sem, pureB1]; done)))); (· (repeat' (first | exact flat_nil | refine flat_cons (flatB_of ?_) ?_ | (simp only [go_sem]; done)))); (· first | (exact within_spec _ _ _)); (· exact .d _ rfl); (· (simp only [go_sem]; exact rfl))) | ((with_reducible apply SafeL.step); (· (simp (disch := omega) only [go_sem]; exact rfl))) | (with_reducible refine Safe.ret ?_) | ((first | with_reducible apply RetP.en | with_reducible apply RetP.en'); (iterate 4 (· (simp only [go_sem]; exact rfl)))) | (with_reducible exact SameShape.nil) | (exact SameShape.rfl' _) | ((with_reducible refine SameShape.cons ?_ ?_); (· first | rfl | (simp only [go_sem]; done))) | (with_reducible refine Un.step ?_) | fail)
  all_goals first | (refine ⟨?_, rfl⟩; first | rfl | (refine leaf_t' ?_; first | omega | decide) | (refine leaf_f' ?_; first | omega | decide) | (exfalso; omega)) | (exfalso; omega) | fail

theorem isPower_spec (n : Int) (h : n = 1 ∨ n = 2 ∨ n = 4 ∨ n = 8 ∨ n = 16 ∨ n = 32) : FnSpec Try.prog 90 [.d (I n)] [] fun r b => r = .d (.bool true) ∧ b = [] := by
  rcases h with rfl | rfl | rfl | rfl | rfl | rfl <;>
  (refine FnSpec.go (nt := 12) (rs := [.tmp 2]) Try.func90 ?_
   repeat' (first | (with_reducible refine Safe.seq ?_) | (with_reducible refine Safe.regionL ?_) | (with_reducible refine and_n ?_) | (with_reducible refine and_r ?_) | (with_reducible refine and_e ?_) | (with_reducible refine in_n ?_) | (with_reducible refine in_r ?_) | (with_reducible refine in_e ?_) | (with_reducible refine in_o (by decide) ?_) | (with_reducible refine SafeL.nil ?_) | (with_reducible refine Safe.skip ?_) | (with_reducible refine Safe.label ?_) | (with_reducible refine Safe.exit ?_) | (with_reducible refine Safe.block ?_) | ((with_reducible apply SafeL.step); (· (simp (disch := omega) only [go_sem]; exact rfl))) | ((with_reducible refine SafeL.gate ?_); first | (apply SafeL.qY; (· exact rfl); (· (simp only [go_sem]; done))) | (apply SafeL.qN; (· exact rfl); (· (simp only [go_sem]; exact rfl)); (· (simp only [go_sem]; done)); (· (simp only [go_sem]; exact rfl))) | (apply SafeL.qU; (· exact rfl); (· (simp only [go_sem]; done)); (· (simp only [go_sem]; exact rfl))) | (apply SafeL.qT; (· exact rfl); (iterate 3 (· (simp only [go_sem]; exact rfl))); all_goals intro hg) | (apply SafeL.qF; (· exact rfl); (iterate 3 (· (simp only [go_sem]; exact rfl))); all_goals intro hg) | (apply SafeL.qB; (· exact rfl); (iterate 3 (· (simp only [go_sem]; exact rfl))); all_goals intro hg)) | (with_reducible refine Safe.ret ?_) | ((first | with_reducible apply RetP.en | with_reducible apply RetP.en'); (iterate 4 (· (simp only [go_sem]; exact rfl)))) | (with_reducible exact SameShape.nil) | (exact SameShape.rfl' _) | ((with_reducible refine SameShape.cons ?_ ?_); (· first | rfl | (simp only [go_sem]; done))) | (with_reducible refine Un.step ?_) | fail)
   all_goals first | (refine ⟨?_, rfl⟩; first | rfl | (refine leaf_t' ?_; first | omega | decide) | (refine leaf_f' ?_; first | omega | decide) | (exfalso; omega)) | (exfalso; omega) | fail)

theorem isPolicy_spec (k m : Int) (h : (k = 1 ∧ 0 ≤ m ∧ m ≤ 100) ∨ ((k = 0 ∨ k = 2) ∧ m = 0)) : FnSpec Try.prog 94 [.agg [.d (I k), .d (I m)]] [] fun r b => r = .d (.bool true) ∧ b = [] := by
  refine FnSpec.go (nt := 22) (rs := [.tmp 2]) Try.func94 ?_
  repeat' (first | (with_reducible refine Safe.seq ?_) | (with_reducible refine Safe.regionL ?_) | (with_reducible refine and_n ?_) | (with_reducible refine and_r ?_) | (with_reducible refine and_e ?_) | (with_reducible refine in_n ?_) | (with_reducible refine in_r ?_) | (with_reducible refine in_e ?_) | (with_reducible refine in_o (by decide) ?_) | (with_reducible refine SafeL.nil ?_) | (with_reducible refine Safe.skip ?_) | (with_reducible refine Safe.label ?_) | (with_reducible refine Safe.exit ?_) | (with_reducible refine Safe.block ?_) | ((with_reducible refine SafeL.cgate ?_); apply SafeL.cA; (iterate 5 (· (simp only [go_sem]; exact rfl))); (· first | assumption | (simp only [go_sem]; done)); (· first | exact List.nodup_nil | decide); (· (repeat' (first | exact pure_nil | refine pure_cons (pureB1_sound ?_) ?_ | (simp only [go_sem]; done) | (simp only [go_sem, pureB1]; done)))); (· first | (exact within_spec _ _ _)); (iterate 2 (· (simp only [go_sem]; exact rfl)))) | ((with_reducible refine SafeL.cgate ?_); apply SafeL.cM; (iterate 3 (· (simp only [go_sem]; exact rfl))); (· (simp only [go_sem, Hp.less, List.mem_cons, List.not_mem_nil, or_false, or_true, false_or]; exact rfl)); (iterate 2 (· (simp only [go_sem]; exact rfl))); (· first | assumption | (simp only [go_sem]; done)); (· first | exact List.nodup_nil | decide); (· (repeat' (first | exact pure_nil | refine pure_cons (pureB1_sound ?_) ?_ | (simp only [go_sem]; done) | (simp only [go_sem, pureB1]; done)))); (· (repeat' (first | exact flat_nil | refine flat_cons (flatB_of ?_) ?_ | (simp only [go_sem]; done)))); (· first | (exact within_spec _ _ _)); (· exact .d _ rfl); (· (simp only [go_sem]; exact rfl))) | ((with_reducible apply SafeL.step); (· (simp (disch := omega) only [go_sem]; exact rfl))) | ((with_reducible refine SafeL.gate ?_); first | (apply SafeL.qY; (· exact rfl); (· (simp only [go_sem]; done))) | (apply SafeL.qN; (· exact rfl); (· (simp only [go_sem]; exact rfl)); (· (simp only [go_sem]; done)); (· (simp only [go_sem]; exact rfl))) | (apply SafeL.qU; (· exact rfl); (· (simp only [go_sem]; done)); (· (simp only [go_sem]; exact rfl))) | (apply SafeL.qT; (· exact rfl); (iterate 3 (· (simp only [go_sem]; exact rfl))); all_goals intro hg) | (apply SafeL.qF; (· exact rfl); (iterate 3 (· (simp only [go_sem]; exact rfl))); all_goals intro hg) | (apply SafeL.qB; (· exact rfl); (iterate 3 (· (simp only [go_sem]; exact rfl))); all_goals intro hg)) | ((with_reducible refine Safe.gate ?_); first | (apply Safe.iT; (· (simp only [go_sem]; exact rfl)); (· (simp only [go_sem]; done))) | (apply Safe.iF; (· (simp only [go_sem]; exact rfl)); (· (simp only [go_sem]; done))) | (apply Safe.iD; (· (simp only [go_sem]; exact rfl)); all_goals intro hc) | (apply Safe.iB; (· (simp only [go_sem]; exact rfl)); all_goals intro hc)) | (with_reducible refine Safe.ret ?_) | ((first | with_reducible apply RetP.en | with_reducible apply RetP.en'); (iterate 4 (· (simp only [go_sem]; exact rfl)))) | (with_reducible exact SameShape.nil) | (exact SameShape.rfl' _) | ((with_reducible refine SameShape.cons ?_ ?_); (· first | rfl | (simp only [go_sem]; done))) | (with_reducible refine Un.step ?_) | fail)
  all_goals first | (refine ⟨?_, rfl⟩; first | rfl | (refine leaf_t' ?_; first | omega | decide) | (refine leaf_f' ?_; first | omega | decide) | (exfalso; omega)) | (exfalso; omega) | fail

/-- A row of a channel as it should be. -/
def ChanOk (n : Int) (r : Chan) : Prop := 0 ≤ r.frm ∧ r.frm < n ∧ 0 ≤ r.to ∧ r.to < n ∧ r.frm ≠ r.to ∧ ((r.kind = 0 ∧ r.depth = 0) ∨ (r.kind = 1 ∧ 1 ≤ r.depth ∧ r.depth ≤ 8))
theorem isChan_spec (r : Chan) (h : ChanOk 6 r) : FnSpec Try.prog 62 [chanV r] [] fun r b => r = .d (.bool true) ∧ b = [] := by
  unfold ChanOk at h
  refine FnSpec.go (nt := 38) (rs := [.tmp 2]) Try.func62 ?_
  repeat' (first | (with_reducible refine Safe.seq ?_) | (with_reducible refine Safe.regionL ?_) | (with_reducible refine and_n ?_) | (with_reducible refine and_r ?_) | (with_reducible refine and_e ?_) | (with_reducible refine in_n ?_) | (with_reducible refine in_r ?_) | (with_reducible refine in_e ?_) | (with_reducible refine in_o (by decide) ?_) | (with_reducible refine SafeL.nil ?_) | (with_reducible refine Safe.skip ?_) | (with_reducible refine Safe.label ?_) | (with_reducible refine Safe.exit ?_) | (with_reducible refine Safe.block ?_) | ((with_reducible refine SafeL.cgate ?_); apply SafeL.cA; (iterate 5 (· (simp only [go_sem]; exact rfl))); (· first | assumption | (simp only [go_sem]; done)); (· first | exact List.nodup_nil | decide); (· (repeat' (first | exact pure_nil | refine pure_cons (pureB1_sound ?_) ?_ | (simp only [go_sem]; done) | (simp only [go_sem, pureB1]; done)))); (· first | (exact within_spec _ _ _)); (iterate 2 (· (simp only [go_sem]; exact rfl)))) | ((with_reducible refine SafeL.cgate ?_); apply SafeL.cM; (iterate 3 (· (simp only [go_sem]; exact rfl))); (· (simp only [go_sem, Hp.less, List.mem_cons, List.not_mem_nil, or_false, or_true, false_or]; exact rfl)); (iterate 2 (· (simp only [go_sem]; exact rfl))); (· first | assumption | (simp only [go_sem]; done)); (· first | exact List.nodup_nil | decide); (· (repeat' (first | exact pure_nil | refine pure_cons (pureB1_sound ?_) ?_ | (simp only [go_sem]; done) | (simp only [go_sem, pureB1]; done)))); (· (repeat' (first | exact flat_nil | refine flat_cons (flatB_of ?_) ?_ | (simp only [go_sem]; done)))); (· first | (exact within_spec _ _ _)); (· exact .d _ rfl); (· (simp only [go_sem]; exact rfl))) | ((with_reducible apply SafeL.step); (· (simp (disch := omega) only [go_sem]; exact rfl))) | ((with_reducible refine SafeL.gate ?_); first | (apply SafeL.qY; (· exact rfl); (· (simp only [go_sem]; done))) | (apply SafeL.qN; (· exact rfl); (· (simp only [go_sem]; exact rfl)); (· (simp only [go_sem]; done)); (· (simp only [go_sem]; exact rfl))) | (apply SafeL.qU; (· exact rfl); (· (simp only [go_sem]; done)); (· (simp only [go_sem]; exact rfl))) | (apply SafeL.qT; (· exact rfl); (iterate 3 (· (simp only [go_sem]; exact rfl))); all_goals intro hg) | (apply SafeL.qF; (· exact rfl); (iterate 3 (· (simp only [go_sem]; exact rfl))); all_goals intro hg) | (apply SafeL.qB; (· exact rfl); (iterate 3 (· (simp only [go_sem]; exact rfl))); all_goals intro hg)) | ((with_reducible refine Safe.gate ?_); first | (apply Safe.iT; (· (simp only [go_sem]; exact rfl)); (· (simp only [go_sem]; done))) | (apply Safe.iF; (· (simp only [go_sem]; exact rfl)); (· (simp only [go_sem]; done))) | (apply Safe.iD; (· (simp only [go_sem]; exact rfl)); all_goals intro hc) | (apply Safe.iB; (· (simp only [go_sem]; exact rfl)); all_goals intro hc)) | (with_reducible refine Safe.ret ?_) | ((first | with_reducible apply RetP.en | with_reducible apply RetP.en'); (iterate 4 (· (simp only [go_sem]; exact rfl)))) | (with_reducible exact SameShape.nil) | (exact SameShape.rfl' _) | ((with_reducible refine SameShape.cons ?_ ?_); (· first | rfl | (simp only [go_sem]; done))) | (with_reducible refine Un.step ?_) | fail)
  all_goals first | (refine ⟨?_, rfl⟩; first | rfl | (refine leaf_t' ?_; first | omega | decide) | (refine leaf_f' ?_; first | omega | decide) | (exfalso; omega)) | (exfalso; omega) | fail

theorem depthOf_spec (r : Chan) (h : 0 ≤ r.depth) : FnSpec Try.prog 99 [chanV r] [] fun v b => v = .d (I (if r.depth > 1 then r.depth else 1)) ∧ b = [] := by
  refine FnSpec.go (nt := 6) (rs := [.tmp 2]) Try.func99 ?_
  repeat' (first | (with_reducible refine Safe.seq ?_) | (with_reducible refine Safe.regionL ?_) | (with_reducible refine and_n ?_) | (with_reducible refine and_r ?_) | (with_reducible refine and_e ?_) | (with_reducible refine in_n ?_) | (with_reducible refine in_r ?_) | (with_reducible refine in_e ?_) | (with_reducible refine in_o (by decide) ?_) | (with_reducible refine SafeL.nil ?_) | (with_reducible refine Safe.skip ?_) | (with_reducible refine Safe.label ?_) | (with_reducible refine Safe.exit ?_) | (with_reducible refine Safe.block ?_) | ((with_reducible apply SafeL.step); (· (simp (disch := omega) only [go_sem]; exact rfl))) | (with_reducible refine Safe.ret ?_) | ((first | with_reducible apply RetP.en | with_reducible apply RetP.en'); (iterate 4 (· (simp only [go_sem]; exact rfl)))) | (with_reducible exact SameShape.nil) | (exact SameShape.rfl' _) | ((with_reducible refine SameShape.cons ?_ ?_); (· first | rfl | (simp only [go_sem]; done))) | (with_reducible refine Un.step ?_) | fail)
  all_goals exact ⟨rfl, rfl⟩
end Go.Proofs.Ytepahgbgijmipaa
