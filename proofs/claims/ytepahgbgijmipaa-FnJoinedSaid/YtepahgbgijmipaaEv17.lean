/- A logic over abstract states for walks, seventeenth part: entering a function, leaving it, calling one. -/
import Derived.Test.YtepahgbgijmipaaEv16
namespace Go.Proofs.YtepahgbgijmipaaEv
open Go Go.RowKit

section
variable {P : Program}

/-- What holds where a function is left. -/
def RetP (P : Program) (rs : List ResultVar) (bx : List Blk) (R : V → List Blk → Prop) : Ex → St → Prop := fun e s =>
  (e = .normal ∨ e = .ret) ∧ ∃ r, resV P rs s = some r ∧ ∃ n y bx', fzV s.h bx.length n r = some y ∧ fzBs s.h bx.length n = some bx' ∧ SameShape bx bx' ∧ R y bx'

theorem FnSpec.enter {f : FuncId} {fn : Func} {c : Code} {args fr : List V} {bx : List Blk} {hl : List (Option Blk)} {nt k : Nat} {rs : List ResultVar} {R : V → List Blk → Prop} (hf : P.funcs[f]? = some fn) (hb : fn.body = some c) (hrs : fn.results.toList = rs) (hn : fn.ntmps = nt)
    (hfr : args ++ List.replicate (nt - args.length) .any = fr) (hbx : bx.map some = hl) (hk : bx.length = k) (hs : Safe P c ⟨fr, hL hl, k, k⟩ (RetP P rs bx R)) : FnSpec P f args bx R := by
  subst hn; subst hfr; subst hbx; subst hk; subst hrs
  refine FnSpec.of_spec (Spec.of_body hf hb ?_)
  rw [ofL_hL]
  exact hs

/-- The first blocks of a heap written out, read by value. -/
def fzL (h : Hp) (k n : Nat) : Nat → List (Option Blk) → Option (List Blk)
  | 0, _ => some []
  | i + 1, some B :: r => match fzB h k n B, fzL h k n i r with
    | some B', some bs => some (B' :: bs)
    | _, _ => none
  | _ + 1, _ => none

theorem mapO_append {α β : Type} {f : α → Option β} : ∀ {l m : List α} {a b : List β}, mapO f l = some a → mapO f m = some b → mapO f (l ++ m) = some (a ++ b)
  | [], m, a, b, h1, h2 => by simp [mapO] at h1; subst h1; simpa using h2
  | x :: l, m, a, b, h1, h2 => by
    simp only [mapO, List.cons_append] at h1 ⊢
    split at h1
    · rename_i y ys e1 e2
      cases h1
      rw [e1, mapO_append e2 h2]
      rfl
    · cases h1

theorem fzL_at (h : Hp) (k n : Nat) : ∀ (c : Nat) (l : List (Option Blk)) (bs : List Blk), fzL h k n c l = some bs → bs.length = c ∧ ∀ i (hi : i < bs.length), (hL l i).bind (fzB h k n) = some bs[i]
  | 0, l, bs, he => by simp [fzL] at he; subst he; exact ⟨rfl, fun i hi => by simp at hi⟩
  | c + 1, [], bs, he => by simp [fzL] at he
  | c + 1, none :: r, bs, he => by simp [fzL] at he
  | c + 1, some B :: r, bs, he => by
    simp only [fzL] at he
    split at he
    · rename_i B' bs' e1 e2
      cases he
      obtain ⟨h1, h2⟩ := fzL_at h k n c r bs' e2
      refine ⟨by simp [h1], fun i hi => ?_⟩
      cases i with
      | zero => simpa [hL] using e1
      | succ i => simpa [hL] using h2 i (by simpa using hi)
    · cases he

theorem mapO_of {α β : Type} {f : α → Option β} : ∀ {l : List α} {bs : List β}, l.length = bs.length → (∀ (j : Nat) (h1 : j < l.length) (h2 : j < bs.length), f l[j] = some bs[j]) → mapO f l = some bs
  | [], [], _, _ => rfl
  | [], _ :: _, h, _ => by simp at h
  | _ :: _, [], h, _ => by simp at h
  | x :: l, b :: bs, h, hj => by
    have h0 := hj 0 (by simp) (by simp)
    simp only [List.getElem_cons_zero] at h0
    have ih := mapO_of (f := f) (l := l) (bs := bs) (by simpa using h) fun j h1 h2 => by
      have := hj (j + 1) (by simpa using h1) (by simpa using h2)
      simpa only [List.getElem_cons_succ] using this
    simp [mapO, h0, ih]

theorem RetP.mk {rs : List ResultVar} {bx bx' : List Blk} {R : V → List Blk → Prop} {fr : List V} {hl : List (Option Blk)} {nx lo k : Nat} {r y : V} {e : Ex} (he : e = .normal ∨ e = .ret) (hr : resV P rs ⟨fr, hL hl, nx, lo⟩ = some r) (hk : bx.length = k) (n : Nat) (hy : fzV (hL hl) k n r = some y)
    (hb : fzL (hL hl) k n k hl = some bx') (hsh : SameShape bx bx') (hR : R y bx') : RetP P rs bx R e ⟨fr, hL hl, nx, lo⟩ := by
  subst hk
  refine ⟨he, r, hr, n, y, bx', hy, ?_, hsh, hR⟩
  obtain ⟨h1, h2⟩ := fzL_at _ _ _ _ _ _ hb
  refine mapO_of (by simpa using h1.symm) fun j a b => ?_
  simp only [List.getElem_range]
  exact h2 j b

theorem SameShape.nil : SameShape [] [] := ⟨rfl, fun i h => by simp at h⟩
theorem SameShape.cons {T s v : Nat} {es es' : List (List V)} {l l' : List Blk} (h : es'.length = es.length) (hl : SameShape l l') : SameShape (⟨T, s, v, es⟩ :: l) (⟨T, s, v, es'⟩ :: l') :=
  ⟨by simp [hl.1], fun i h1 h2 => by
    cases i with
    | zero => exact ⟨rfl, rfl, rfl, h⟩
    | succ i => exact hl.2 i (by simpa using h1) (by simpa using h2)⟩
theorem SameShape.rfl' (l : List Blk) : SameShape l l := ⟨rfl, fun _ _ _ => ⟨rfl, rfl, rfl, rfl⟩⟩
theorem PureB.mk (T s v : Nat) (es : List (List D)) : PureB ⟨T, s, v, es.map fun e => e.map V.d⟩ := fun e he v hv => by
  obtain ⟨e', _, rfl⟩ := List.mem_map.1 he
  obtain ⟨x, _, rfl⟩ := List.mem_map.1 hv
  exact ⟨x, rfl⟩

/-! ### Calls -/
def isD : V → Bool
  | .d _ => true
  | _ => false
def idxN : List Nat → Nat → Option Nat
  | [], _ => none
  | x :: l, i => if x = i then some 0 else (idxN l i).map (· + 1)
theorem idxN_some : ∀ {l : List Nat} {i j : Nat}, idxN l i = some j → l[j]? = some i
  | [], i, j, h => by simp [idxN] at h
  | x :: l, i, j, h => by
    unfold idxN at h
    split at h
    · rename_i he; cases h; simp [he]
    · cases hq : idxN l i with
      | none => simp [hq] at h
      | some k => simp [hq] at h; subst h; simpa using idxN_some hq

/-- An argument as the callee sees it, where the blocks ids are passed. -/
def argF (ids : List Nat) : V → Option V
  | .d x => some (.d x)
  | .ip cs o => some (.ip cs o)
  | .ptr id ver i o => (idxN ids id).map fun j => .ptr j ver i o
  | .sl id ver off len => (idxN ids id).map fun j => .sl j ver off len
  | .agg cs => if cs.all isD = true then some (.agg cs) else none
  | .fn f cs => (argsF ids cs).map (.fn f)
  | _ => none
where argsF (ids : List Nat) : List V → Option (List V)
  | [] => some []
  | v :: r => match argF ids v, argsF ids r with
    | some v', some r' => some (v' :: r')
    | _, _ => none

theorem all_isD : ∀ {cs : List V}, cs.all isD = true → ∃ ds : List D, cs = ds.map .d
  | [], _ => ⟨[], rfl⟩
  | .d x :: r, h => by
    obtain ⟨ds, rfl⟩ := all_isD (cs := r) (by simpa [isD] using h)
    exact ⟨x :: ds, rfl⟩
  | .any :: _, h => by simp [isD] at h
  | .ptr .. :: _, h => by simp [isD] at h
  | .ip .. :: _, h => by simp [isD] at h
  | .sl .. :: _, h => by simp [isD] at h
  | .agg .. :: _, h => by simp [isD] at h
  | .tup .. :: _, h => by simp [isD] at h
  | .fn .. :: _, h => by simp [isD] at h

mutual
theorem argF_sound {ids : List Nat} : ∀ {v v' : V}, argF ids v = some v' → Arg ids v v'
  | .d x, v', h => by simp [argF] at h; subst h; exact .d x
  | .ip cs o, v', h => by simp [argF] at h; subst h; exact .ip cs o
  | .ptr id ver i o, v', h => by
    simp only [argF] at h
    cases hq : idxN ids id with
    | none => simp [hq] at h
    | some j => simp [hq] at h; subst h; exact .ptr id ver i o j (idxN_some hq)
  | .sl id ver off len, v', h => by
    simp only [argF] at h
    cases hq : idxN ids id with
    | none => simp [hq] at h
    | some j => simp [hq] at h; subst h; exact .sl id ver off len j (idxN_some hq)
  | .agg cs, v', h => by
    simp only [argF] at h
    split at h
    · rename_i hc
      cases h
      obtain ⟨ds, rfl⟩ := all_isD hc
      exact .agg ds
    · cases h
  | .fn f cs, v', h => by
    simp only [argF] at h
    cases hq : argF.argsF ids cs with
    | none => simp [hq] at h
    | some cs' =>
      simp [hq] at h; subst h
      obtain ⟨h1, h2⟩ := argsF_sound hq
      exact .fn f cs cs' h1 h2
  | .any, v', h => by simp [argF] at h
  | .tup _, v', h => by simp [argF] at h
theorem argsF_sound {ids : List Nat} : ∀ {vs vs' : List V}, argF.argsF ids vs = some vs' → All2 (Arg ids) vs vs'
  | [], vs', h => by simp [argF.argsF] at h; subst h; exact All2.nil
  | v :: r, vs', h => by
    simp only [argF.argsF] at h
    split at h
    · rename_i v' r' h1 h2
      cases h
      have a := argF_sound h1
      have b := argsF_sound h2
      refine ⟨by simp [b.1], fun j g1 g2 => ?_⟩
      cases j with
      | zero => exact a
      | succ j => exact b.2 j (by simpa using g1) (by simpa using g2)
    · cases h
end

def backL : List (Option Blk) → List Nat → List Blk → List (Option Blk)
  | l, i :: ids, B :: bx => setL (backL l ids bx) i B
  | l, _, _ => l
theorem hL_back : ∀ (ids : List Nat) (bx : List Blk) (l : List (Option Blk)), (hL l).back (ids.zip bx) = hL (backL l ids bx)
  | [], bx, l => rfl
  | i :: ids, [], l => rfl
  | i :: ids, B :: bx, l => by
    simp only [List.zip_cons_cons, Hp.back, backL]
    rw [hL_back ids bx l, hL_set]

theorem SafeL.callBox {ops : Array Oper} {dst : Option Tmp} {ty : TypeId} {pos : String} {after : Array Edge} {l : List Oper} {K : St → Prop} {fr : List V} {hl : List (Option Blk)} {nx lo : Nat} {fo : Operand} {args : Array Operand} {ats : Array TypeId}
    {g : FuncId} {caps : List V} (hf : calleeOf (evO fr fo) = some (g, caps)) (he : enters P g = true) (ids : List Nat) {bx : List Blk} {args' : List V} (hargs : argF.argsF ids (args.toList.map (evO fr) ++ caps) = some args') (hn : ids.Nodup) (hbx : mapO (hL hl) ids = some bx) (hp : ∀ B ∈ bx, PureB B)
    {R : V → List Blk → Prop} (hs : FnSpec P g args' bx R) (hK : ∀ r bx', R r bx' → SafeL P ops l ⟨put fr dst r, hL (backL hl ids bx'), nx, lo⟩ K) : SafeL P ops (⟨dst, .call { callee := .value fo, args := args, argTypes := ats }, ty, pos, after, none⟩ :: l) ⟨fr, hL hl, nx, lo⟩ K := by
  obtain ⟨l1, l2⟩ := mapO_mem hbx
  refine SafeL.call rfl rfl hf he (hs.call hn l1 (fun j id hj => ?_) hp (argsF_sound hargs)) fun r h' nx' ⟨h1, bx', h2, _, _, _, h3⟩ => ?_
  · obtain ⟨hj1, hj2⟩ := List.getElem?_eq_some_iff.1 hj
    have := l2 j hj1 (by omega)
    rw [hj2] at this
    show hL hl id = bx[j]?
    rw [this, List.getElem?_eq_getElem (by omega)]
  · subst h1; subst h2
    rw [hL_back]
    exact hK r bx' h3

/-- A call whose result and boxes are told. -/
theorem SafeL.callB {ops : Array Oper} {dst : Option Tmp} {ty : TypeId} {pos : String} {after : Array Edge} {l : List Oper} {K : St → Prop} {fr fr' : List V} {hl hl' : List (Option Blk)} {nx lo : Nat} {fo : Operand} {args : Array Operand} {ats : Array TypeId}
    {g : FuncId} {caps : List V} (hf : calleeOf (evO fr fo) = some (g, caps)) (he : enters P g = true) (ids : List Nat) {bx bx' : List Blk} {args' : List V} {r : V} (hargs : argF.argsF ids (args.toList.map (evO fr) ++ caps) = some args') (hn : ids.Nodup) (hbx : mapO (hL hl) ids = some bx) (hp : ∀ B ∈ bx, PureB B)
    (hs : FnSpec P g args' bx fun r' b => r' = r ∧ b = bx') (hfr : put fr dst r = fr') (hhl : backL hl ids bx' = hl') (hK : SafeL P ops l ⟨fr', hL hl', nx, lo⟩ K) : SafeL P ops (⟨dst, .call { callee := .value fo, args := args, argTypes := ats }, ty, pos, after, none⟩ :: l) ⟨fr, hL hl, nx, lo⟩ K := by
  subst hfr; subst hhl
  refine SafeL.callBox hf he ids hargs hn hbx hp hs fun r' b ⟨h1, h2⟩ => ?_
  subst h1; subst h2
  exact hK

theorem SafeL.callRd {ops : Array Oper} {dst : Option Tmp} {ty : TypeId} {pos : String} {after : Array Edge} {l : List Oper} {K : St → Prop} {fr : List V} {h : Hp} {nx lo : Nat} {fo : Operand} {args : Array Operand} {ats : Array TypeId}
    {g : FuncId} {caps : List V} (hf : calleeOf (evO fr fo) = some (g, caps)) (he : enters P g = true) (n : Nat) {args' : List V} (hargs : mapO (fz1 h 0 n) (args.toList.map (evO fr) ++ caps) = some args')
    {R : V → List Blk → Prop} (hs : FnSpec P g args' [] R) (hfl : ∀ r, R r [] → Flat r) (hK : ∀ r, R r [] → SafeL P ops l ⟨put fr dst r, h, nx, lo⟩ K) : SafeL P ops (⟨dst, .call { callee := .value fo, args := args, argTypes := ats }, ty, pos, after, none⟩ :: l) ⟨fr, h, nx, lo⟩ K :=
  SafeL.call rfl rfl hf he (hs.callRead hargs hfl) fun r h' nx' ⟨h1, h2, h3⟩ => by
    subst h1; subst h2
    exact hK r h3
end
end Go.Proofs.YtepahgbgijmipaaEv
