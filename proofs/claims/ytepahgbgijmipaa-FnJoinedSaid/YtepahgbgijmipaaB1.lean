/- Draws, under the logic of abstract states. -/
import Derived.Test.YtepahgbgijmipaaA1
namespace Go.Proofs.Ytepahgbgijmipaa
open Go Go.RowKit Go.Proofs.YtepahgbgijmipaaEv
set_option linter.unusedSimpArgs false
set_option linter.unusedVariables false
set_option maxRecDepth 4000

/-- A cursor over the bytes of a draw. -/
structure Cur where
  code : List Int
  i : Nat
  h : Int
def codeD (l : List Int) : D := .ls 1 (l.map fun x => [.int .u8 x])
def curB (T : Nat) (c : Cur) : Blk := ⟨T, 3, 0, [[.d (codeD c.code), .d (I c.i), .d (I c.h)]]⟩
theorem curB_pure (T : Nat) (c : Cur) : PureB (curB T c) := fun e he v hv => by
  simp only [curB, List.mem_cons, List.not_mem_nil, or_false] at he
  subst he
  simp only [List.mem_cons, List.not_mem_nil, or_false] at hv
  rcases hv with rfl | rfl | rfl <;> exact ⟨_, rfl⟩
@[go_sem] theorem pureB1_curB (T : Nat) (c : Cur) : pureB1 (curB T c) = true := rfl
theorem curB_shape (T : Nat) (c c' : Cur) : SameShape [curB T c] [curB T c'] := SameShape.cons rfl SameShape.nil
@[go_sem high] theorem curB_fz (h : Hp) (k n T : Nat) (c : Cur) : fzB h k n (curB T c) = some (curB T c) := by
  simp only [fzB, curB, mapO, fzD, Option.map_some, List.map_cons, List.map_nil]
structure CurOk (c : Cur) : Prop where
  i : c.i ≤ c.code.length
  len : c.code.length ≤ 1048576
  bytes : ∀ x ∈ c.code, 0 ≤ x ∧ x ≤ 255

abbrev and255 (x : Int) : Int := IntKind.i64.wrap ↑(BitVec.ofInt 64 x &&& BitVec.ofInt 64 255).toNat
theorem and255_bnd (x : Int) : 0 ≤ and255 x ∧ and255 x ≤ 255 := by
  have h : (BitVec.ofInt 64 x &&& BitVec.ofInt 64 255).toNat ≤ 255 := by
    rw [BitVec.toNat_and]
    have e : (BitVec.ofInt 64 255).toNat = 255 := by decide
    rw [e]
    exact Nat.and_le_right
  unfold and255
  rw [wrap_i64 (by omega)]
  omega
abbrev hNext (h : Int) : Int := IntKind.i64.wrap (IntKind.i64.wrap (h * 6364136223846793005) + 1442695040888963407)
abbrev mixV (h : Int) : Int := and255 (IntKind.i64.wrap ↑(BitVec.ofInt 64 (h.fdiv (2 ^ min (Int.toNat 33) 64)) ^^^ BitVec.ofInt 64 (h.fdiv (2 ^ min (Int.toNat 45) 64))).toNat)
/-- The next byte, and the cursor behind it. -/
def byteV (c : Cur) : Int := if c.i < c.code.length then and255 (IntKind.i64.wrap (mixV (hNext c.h) + c.code.getD c.i 0)) else mixV (hNext c.h)
def byteC (c : Cur) : Cur := ⟨c.code, if c.i < c.code.length then c.i + 1 else c.i, hNext c.h⟩
theorem byteV_bnd (c : Cur) : 0 ≤ byteV c ∧ byteV c ≤ 255 := by
  unfold byteV
  split <;> exact and255_bnd _
theorem byteC_ok {c : Cur} (h : CurOk c) : CurOk (byteC c) := by
  obtain ⟨h1, h2, h3⟩ := h
  refine ⟨?_, h2, h3⟩
  simp only [byteC]
  split <;> omega

theorem byte_spec (T : Nat) (c : Cur) (h : CurOk c) : FnSpec Try.prog 51 [.ptr 0 0 0 0] [curB T c] fun r b => r = .d (I (byteV c)) ∧ b = [curB T (byteC c)] := by
  obtain ⟨h1, h2, h3⟩ := h
  refine FnSpec.go (nt := 58) (rs := [.tmp 2]) Try.func51 ?_
  unfold curB codeD
  by_cases hil : c.i < c.code.length
  · have hd : decide ((c.i : Int) < (c.code.length : Int)) = true := decide_eq_true (by omega)
    have hb := h3 _ (List.getElem_mem hil)
    repeat' (first | (with_reducible refine Safe.seq ?_) | (with_reducible refine Safe.regionL ?_) | (with_reducible refine and_n ?_) | (with_reducible refine and_r ?_) | (with_reducible refine and_e ?_) | (with_reducible refine in_n ?_) | (with_reducible refine in_r ?_) | (with_reducible refine in_e ?_) | (with_reducible refine in_o (by decide) ?_) | (with_reducible refine SafeL.nil ?_) | (with_reducible refine Safe.skip ?_) | (with_reducible refine Safe.label ?_) | (with_reducible refine Safe.exit ?_) | (with_reducible refine Safe.block ?_) | ((with_reducible refine Safe.regionK2 ?_ ?_ ?_); (· exact mixed_any); (· kernel_rfl)) | ((with_reducible refine LexK.nil ?_); refine LexK.en2 (nx' := ?_) ?_ ?_ ?_; rotate_left 1; (· (simp only [List.map_cons, List.map_nil, foot, Entry.ids]; kernel_rfl)); (· (simp only [go_sem, List.getElem?_eq_getElem, if_pos, hd]; exact rfl))) | ((with_reducible apply LexK.st); (· (simp only [Nat.reduceAdd, Nat.zero_add, Nat.add_zero]; exact rfl)); (· (simp (disch := omega) only [go_sem, List.getElem?_eq_getElem, if_pos, hd]; exact rfl)); (· (simp only [Nat.reduceAdd, Nat.zero_add, Nat.add_zero]; exact rfl))) | ((with_reducible apply SafeL.step); (· (simp (disch := omega) only [go_sem, List.getElem?_eq_getElem, if_pos, hd]; exact rfl))) | ((with_reducible refine Safe.gate ?_); first | (apply Safe.iT; (· (simp only [go_sem, List.getElem?_eq_getElem, if_pos, hd]; exact rfl)); (· (simp only [go_sem, List.getElem?_eq_getElem, if_pos, hd]; done))) | (apply Safe.iF; (· (simp only [go_sem, List.getElem?_eq_getElem, if_pos, hd]; exact rfl)); (· (simp only [go_sem, List.getElem?_eq_getElem, if_pos, hd]; done))) | (apply Safe.iD; (· (simp only [go_sem, List.getElem?_eq_getElem, if_pos, hd]; exact rfl)); all_goals intro hc) | (apply Safe.iB; (· (simp only [go_sem, List.getElem?_eq_getElem, if_pos, hd]; exact rfl)); all_goals intro hc)) | (with_reducible refine Safe.ret ?_) | ((first | with_reducible apply RetP.en | with_reducible apply RetP.en'); (iterate 4 (· (simp only [go_sem, List.getElem?_eq_getElem, if_pos, hd]; exact rfl)))) | (with_reducible exact SameShape.nil) | (exact SameShape.rfl' _) | ((with_reducible refine SameShape.cons ?_ ?_); (· first | rfl | (simp only [go_sem]; done))) | (with_reducible refine Un.step ?_) | (exact curB_shape _ _ _) | fail)
    all_goals (refine ⟨?_, ?_⟩)
    · unfold byteV
      rw [if_pos hil, List.getD_eq_getElem?_getD, List.getElem?_eq_getElem hil]
      rfl
    · simp only [byteC, if_pos hil]
      rfl
  · have hd : decide ((c.i : Int) < (c.code.length : Int)) = false := decide_eq_false (by omega)
    repeat' (first | (with_reducible refine Safe.seq ?_) | (with_reducible refine Safe.regionL ?_) | (with_reducible refine and_n ?_) | (with_reducible refine and_r ?_) | (with_reducible refine and_e ?_) | (with_reducible refine in_n ?_) | (with_reducible refine in_r ?_) | (with_reducible refine in_e ?_) | (with_reducible refine in_o (by decide) ?_) | (with_reducible refine SafeL.nil ?_) | (with_reducible refine Safe.skip ?_) | (with_reducible refine Safe.label ?_) | (with_reducible refine Safe.exit ?_) | (with_reducible refine Safe.block ?_) | ((with_reducible refine Safe.regionK2 ?_ ?_ ?_); (· exact mixed_any); (· kernel_rfl)) | ((with_reducible refine LexK.nil ?_); refine LexK.en2 (nx' := ?_) ?_ ?_ ?_; rotate_left 1; (· (simp only [List.map_cons, List.map_nil, foot, Entry.ids]; kernel_rfl)); (· (simp only [go_sem, hd]; exact rfl))) | ((with_reducible apply LexK.st); (· (simp only [Nat.reduceAdd, Nat.zero_add, Nat.add_zero]; exact rfl)); (· (simp (disch := omega) only [go_sem, hd]; exact rfl)); (· (simp only [Nat.reduceAdd, Nat.zero_add, Nat.add_zero]; exact rfl))) | ((with_reducible apply SafeL.step); (· (simp (disch := omega) only [go_sem, hd]; exact rfl))) | ((with_reducible refine Safe.gate ?_); first | (apply Safe.iT; (· (simp only [go_sem, hd]; exact rfl)); (· (simp only [go_sem, hd]; done))) | (apply Safe.iF; (· (simp only [go_sem, hd]; exact rfl)); (· (simp only [go_sem, hd]; done))) | (apply Safe.iD; (· (simp only [go_sem, hd]; exact rfl)); all_goals intro hc) | (apply Safe.iB; (· (simp only [go_sem, hd]; exact rfl)); all_goals intro hc)) | (with_reducible refine Safe.ret ?_) | ((first | with_reducible apply RetP.en | with_reducible apply RetP.en'); (iterate 4 (· (simp only [go_sem, hd]; exact rfl)))) | (with_reducible exact SameShape.nil) | (exact SameShape.rfl' _) | ((with_reducible refine SameShape.cons ?_ ?_); (· first | rfl | (simp only [go_sem]; done))) | (with_reducible refine Un.step ?_) | (exact curB_shape _ _ _) | fail)
    all_goals (refine ⟨?_, ?_⟩)
    · unfold byteV
      rw [if_neg hil]
      rfl
    · simp only [byteC, if_neg hil]

/-- A number below n, and the cursor behind it. -/
def belowV (c : Cur) (n : Int) : Int :=
  if n ≤ 0 then 0 else if n ≤ 256 then (byteV c).tmod n
  else (byteV c * 16777216 + byteV (byteC c) * 65536 + byteV (byteC (byteC c)) * 256 + byteV (byteC (byteC (byteC c)))).tmod n
def belowC (c : Cur) (n : Int) : Cur := if n ≤ 0 then c else if n ≤ 256 then byteC c else byteC (byteC (byteC (byteC c)))
theorem belowC_ok {c : Cur} (n : Int) (h : CurOk c) : CurOk (belowC c n) := by
  unfold belowC
  split
  · exact h
  · split
    · exact byteC_ok h
    · exact byteC_ok (byteC_ok (byteC_ok (byteC_ok h)))
theorem belowV_bnd (c : Cur) {n : Int} (h : 0 < n) : 0 ≤ belowV c n ∧ belowV c n < n := by
  have b0 := byteV_bnd c
  have b1 := byteV_bnd (byteC c)
  have b2 := byteV_bnd (byteC (byteC c))
  have b3 := byteV_bnd (byteC (byteC (byteC c)))
  unfold belowV
  rw [if_neg (by omega)]
  split
  · exact ⟨Int.tmod_nonneg _ (by omega), Int.tmod_lt_of_pos _ h⟩
  · exact ⟨Int.tmod_nonneg _ (by omega), Int.tmod_lt_of_pos _ h⟩

theorem below_spec (T : Nat) (c : Cur) (n : Int) (h : CurOk c) : FnSpec Try.prog 25 [.ptr 0 0 0 0, .d (I n)] [curB T c] fun r b => r = .d (I (belowV c n)) ∧ b = [curB T (belowC c n)] := by
  have h1 := byteC_ok h
  have h2 := byteC_ok h1
  have h3 := byteC_ok h2
  have b0 := byteV_bnd c
  have b1 := byteV_bnd (byteC c)
  have b2 := byteV_bnd (byteC (byteC c))
  have b3 := byteV_bnd (byteC (byteC (byteC c)))
  refine FnSpec.go (nt := 37) (rs := [.tmp 4]) Try.func25 ?_
  repeat' (first | (with_reducible refine Safe.seq ?_) | (with_reducible refine Safe.regionL ?_) | (with_reducible refine and_n ?_) | (with_reducible refine and_r ?_) | (with_reducible refine and_e ?_) | (with_reducible refine in_n ?_) | (with_reducible refine in_r ?_) | (with_reducible refine in_e ?_) | (with_reducible refine in_o (by decide) ?_) | (with_reducible refine SafeL.nil ?_) | (with_reducible refine Safe.skip ?_) | (with_reducible refine Safe.label ?_) | (with_reducible refine Safe.exit ?_) | (with_reducible refine Safe.block ?_) | ((with_reducible refine SafeL.cgate ?_); apply SafeL.cA; (iterate 5 (· (simp only [go_sem]; exact rfl))); (· first | assumption | (simp only [go_sem]; done)); (· first | exact List.nodup_nil | decide); (· (repeat' (first | exact pure_nil | refine pure_cons (pureB1_sound ?_) ?_ | (simp only [go_sem]; done) | (simp only [go_sem, pureB1]; done)))); (· first | (refine byte_spec _ _ ?_ <;> first | assumption | omega | (repeat' (first | assumption | apply belowC_ok | apply byteC_ok)))); (iterate 2 (· (simp only [go_sem]; exact rfl)))) | ((with_reducible refine SafeL.cgate ?_); apply SafeL.cM; (iterate 3 (· (simp only [go_sem]; exact rfl))); (· (simp only [go_sem, Hp.less, List.mem_cons, List.not_mem_nil, or_false, or_true, false_or]; exact rfl)); (iterate 2 (· (simp only [go_sem]; exact rfl))); (· first | assumption | (simp only [go_sem]; done)); (· first | exact List.nodup_nil | decide); (· (repeat' (first | exact pure_nil | refine pure_cons (pureB1_sound ?_) ?_ | (simp only [go_sem]; done) | (simp only [go_sem, pureB1]; done)))); (· (repeat' (first | exact flat_nil | refine flat_cons (flatB_of ?_) ?_ | (simp only [go_sem]; done)))); (· first | (refine byte_spec _ _ ?_ <;> first | assumption | omega | (repeat' (first | assumption | apply belowC_ok | apply byteC_ok)))); (· exact .d _ rfl); (· (simp only [go_sem]; exact rfl))) | ((with_reducible apply SafeL.step); (· (simp (disch := omega) only [go_sem]; exact rfl))) | ((with_reducible refine Safe.gate ?_); first | (apply Safe.iT; (· (simp only [go_sem]; exact rfl)); (· (simp only [go_sem]; done))) | (apply Safe.iF; (· (simp only [go_sem]; exact rfl)); (· (simp only [go_sem]; done))) | (apply Safe.iD; (· (simp only [go_sem]; exact rfl)); all_goals intro hc) | (apply Safe.iB; (· (simp only [go_sem]; exact rfl)); all_goals intro hc)) | (with_reducible refine Safe.ret ?_) | ((first | with_reducible apply RetP.en | with_reducible apply RetP.en'); (iterate 4 (· (simp only [go_sem]; exact rfl)))) | (with_reducible exact SameShape.nil) | (exact SameShape.rfl' _) | ((with_reducible refine SameShape.cons ?_ ?_); (· first | rfl | (simp only [go_sem]; done))) | (with_reducible refine Un.step ?_) | (exact curB_shape _ _ _) | fail)
  all_goals (refine ⟨?_, ?_⟩ <;> simp [belowV, belowC, *])

theorem once_spec (T : Nat) (c : Cur) (n : Int) (h : CurOk c) : FnSpec Try.prog 50 [.ptr 0 0 0 0, .d (I n)] [curB T c] fun r b => r = .d (.bool (decide (belowV c n = 0))) ∧ b = [curB T (belowC c n)] := by
  refine FnSpec.go (nt := 9) (rs := [.tmp 4]) Try.func50 ?_
  repeat' (first | (with_reducible refine Safe.seq ?_) | (with_reducible refine Safe.regionL ?_) | (with_reducible refine and_n ?_) | (with_reducible refine and_r ?_) | (with_reducible refine and_e ?_) | (with_reducible refine in_n ?_) | (with_reducible refine in_r ?_) | (with_reducible refine in_e ?_) | (with_reducible refine in_o (by decide) ?_) | (with_reducible refine SafeL.nil ?_) | (with_reducible refine Safe.skip ?_) | (with_reducible refine Safe.label ?_) | (with_reducible refine Safe.exit ?_) | (with_reducible refine Safe.block ?_) | ((with_reducible refine SafeL.cgate ?_); apply SafeL.cA; (iterate 5 (· (simp only [go_sem]; exact rfl))); (· first | assumption | (simp only [go_sem]; done)); (· first | exact List.nodup_nil | decide); (· (repeat' (first | exact pure_nil | refine pure_cons (pureB1_sound ?_) ?_ | (simp only [go_sem]; done) | (simp only [go_sem, pureB1]; done)))); (· first | (refine below_spec _ _ _ ?_ <;> first | assumption | omega | (repeat' (first | assumption | apply belowC_ok | apply byteC_ok)))); (iterate 2 (· (simp only [go_sem]; exact rfl)))) | ((with_reducible refine SafeL.cgate ?_); apply SafeL.cM; (iterate 3 (· (simp only [go_sem]; exact rfl))); (· (simp only [go_sem, Hp.less, List.mem_cons, List.not_mem_nil, or_false, or_true, false_or]; exact rfl)); (iterate 2 (· (simp only [go_sem]; exact rfl))); (· first | assumption | (simp only [go_sem]; done)); (· first | exact List.nodup_nil | decide); (· (repeat' (first | exact pure_nil | refine pure_cons (pureB1_sound ?_) ?_ | (simp only [go_sem]; done) | (simp only [go_sem, pureB1]; done)))); (· (repeat' (first | exact flat_nil | refine flat_cons (flatB_of ?_) ?_ | (simp only [go_sem]; done)))); (· first | (refine below_spec _ _ _ ?_ <;> first | assumption | omega | (repeat' (first | assumption | apply belowC_ok | apply byteC_ok)))); (· exact .d _ rfl); (· (simp only [go_sem]; exact rfl))) | ((with_reducible apply SafeL.step); (· (simp (disch := omega) only [go_sem]; exact rfl))) | (with_reducible refine Safe.ret ?_) | ((first | with_reducible apply RetP.en | with_reducible apply RetP.en'); (iterate 4 (· (simp only [go_sem]; exact rfl)))) | (with_reducible exact SameShape.nil) | (exact SameShape.rfl' _) | ((with_reducible refine SameShape.cons ?_ ?_); (· first | rfl | (simp only [go_sem]; done))) | (with_reducible refine Un.step ?_) | (exact curB_shape _ _ _) | fail)
  all_goals exact ⟨rfl, rfl⟩

/-- A list of whole numbers in memory of its own. -/
def intsB (E : Nat) (l : List Int) : Blk := ⟨E, 1, 0, l.map fun x => [.d (I x)]⟩
theorem intsB_pure (E : Nat) (l : List Int) : PureB (intsB E l) := fun e he v hv => by
  simp only [intsB, List.mem_map] at he
  obtain ⟨x, _, rfl⟩ := he
  simp only [List.mem_cons, List.not_mem_nil, or_false] at hv
  exact ⟨_, hv⟩
@[go_sem] theorem pureB1_intsB (E : Nat) (l : List Int) : pureB1 (intsB E l) = true := by simp [pureB1, intsB, isD]
@[go_sem] theorem fz_ints (h : Hp) (k n : Nat) (l : List Int) : mapO (mapO (fzD h k n)) (l.map fun x => [V.d (I x)]) = some (l.map fun x => [I x]) :=
  mapO_map (fun x => by simp only [mapO, fzD]) l
def pickV (c : Cur) (l : List Int) : Int := l.getD (belowV c l.length).toNat 0
theorem pickInt_spec (T E : Nat) (c : Cur) (l : List Int) (h : CurOk c) (hl : 0 < l.length ∧ l.length ≤ 1000) : FnSpec Try.prog 32 [.ptr 0 0 0 0, .sl 1 0 0 l.length] [curB T c, intsB E l] fun r b => r = .d (I (pickV c l)) ∧ b = [curB T (belowC c l.length), intsB E l] := by
  have hb := belowV_bnd c (n := l.length) (by omega)
  refine FnSpec.go (nt := 12) (rs := [.tmp 4]) Try.func32 ?_
  repeat' (first | (with_reducible refine Safe.seq ?_) | (with_reducible refine Safe.regionL ?_) | (with_reducible refine and_n ?_) | (with_reducible refine and_r ?_) | (with_reducible refine and_e ?_) | (with_reducible refine in_n ?_) | (with_reducible refine in_r ?_) | (with_reducible refine in_e ?_) | (with_reducible refine in_o (by decide) ?_) | (with_reducible refine SafeL.nil ?_) | (with_reducible refine Safe.skip ?_) | (with_reducible refine Safe.label ?_) | (with_reducible refine Safe.exit ?_) | (with_reducible refine Safe.block ?_) | ((with_reducible refine SafeL.cgate ?_); apply SafeL.cA; (iterate 5 (· (simp only [go_sem, intsB, if_pos, Nat.zero_add, List.getElem?_eq_getElem]; exact rfl))); (· first | assumption | (simp only [go_sem]; done)); (· first | exact List.nodup_nil | decide); (· (repeat' (first | exact pure_nil | refine pure_cons (pureB1_sound ?_) ?_ | (simp only [go_sem]; done) | (simp only [go_sem, pureB1]; done)))); (· first | (refine below_spec _ _ _ ?_ <;> first | assumption | omega | (repeat' (first | assumption | apply belowC_ok | apply byteC_ok)))); (iterate 2 (· (simp only [go_sem, intsB, if_pos, Nat.zero_add, List.getElem?_eq_getElem]; exact rfl)))) | ((with_reducible refine SafeL.cgate ?_); apply SafeL.cM; (iterate 3 (· (simp only [go_sem, intsB, if_pos, Nat.zero_add, List.getElem?_eq_getElem]; exact rfl))); (· (simp only [go_sem, Hp.less, List.mem_cons, List.not_mem_nil, or_false, or_true, false_or]; exact rfl)); (iterate 2 (· (simp only [go_sem, intsB, if_pos, Nat.zero_add, List.getElem?_eq_getElem]; exact rfl))); (· first | assumption | (simp only [go_sem]; done)); (· first | exact List.nodup_nil | decide); (· (repeat' (first | exact pure_nil | refine pure_cons (pureB1_sound ?_) ?_ | (simp only [go_sem]; done) | (simp only [go_sem, pureB1]; done)))); (· (repeat' (first | exact flat_nil | refine flat_cons (flatB_of ?_) ?_ | (simp only [go_sem]; done)))); (· first | (refine below_spec _ _ _ ?_ <;> first | assumption | omega | (repeat' (first | assumption | apply belowC_ok | apply byteC_ok)))); (· exact .d _ rfl); (· (simp only [go_sem, intsB, if_pos, Nat.zero_add, List.getElem?_eq_getElem]; exact rfl))) | ((with_reducible apply SafeL.step); (· (simp (disch := omega) only [go_sem, intsB, if_pos, Nat.zero_add, List.getElem?_eq_getElem]; exact rfl))) | (with_reducible refine Safe.ret ?_) | ((first | with_reducible apply RetP.en | with_reducible apply RetP.en'); (iterate 4 (· (simp only [go_sem, intsB, if_pos, Nat.zero_add, List.getElem?_eq_getElem]; exact rfl)))) | (with_reducible exact SameShape.nil) | (exact SameShape.rfl' _) | ((with_reducible refine SameShape.cons ?_ ?_); (· first | rfl | (simp only [go_sem]; done))) | (with_reducible refine Un.step ?_) | (exact curB_shape _ _ _) | fail)
  · exact SameShape.cons rfl (SameShape.cons (by simp) SameShape.nil)
  · refine ⟨?_, ?_⟩
    · unfold pickV
      rw [List.getD_eq_getElem?_getD, List.getElem?_eq_getElem (by omega)]
      rfl
    · simp [intsB, List.map_map, Function.comp_def]
end Go.Proofs.Ytepahgbgijmipaa
