/- A logic over abstract states for walks, eighth part: copy, lengths, conversions, equality. -/
import Derived.Test.YtepahgbgijmipaaEv7
namespace Go.Proofs.YtepahgbgijmipaaEv
open Go Go.RowKit
section
variable {P : Program} {w : World} {S : Nat → Prop} {h : Hp} {m : Nat → Nat × Nat} {nx : Nat → Prop}

/-! ### copy -/
theorem srcV_first (H : HR w S h m nx) {tx : TypeId} {s : Nat} {cx : Value} {x : V} (hx : RV w S h m nx cx x) {es : List (List V)} {rd : List Nat} (he : srcV P h tx s x = some (es, rd)) (n : Nat) (hn : n ≤ es.length) (hns : ∀ b, x ≠ .d (.str b)) :
    (∀ w' : World, (Builtin.lenOf cx).run P w' = .ok es.length w') ∧ ∃ news, news.length = n * s ∧ (Builtin.firstCells s n cx).run P w = .ok news.toArray w ∧ All2 (RV w S h m nx) news (es.take n).flatten ∧ (∀ u ∈ news, u.oneCell' = true) := by
  obtain ⟨news, hS, hr, hs, hlies⟩ := srcV_sound H hx he
  refine ⟨hS.len, ?_⟩
  have hfl := flatten_len s es hs
  have hlen := hS.newsLen
  have hle : n * s ≤ es.length * s := Nat.mul_le_mul_right _ hn
  refine ⟨news.take (n * s), by simp only [List.length_take]; omega, ?_, ?_, fun u hu => hS.one u (List.mem_of_mem_take hu)⟩
  · rcases hlies with ⟨a, len, cap, rfl, hcl⟩ | ⟨len, cap, rfl, rfl⟩ | ⟨b, rfl⟩
    · exact run_firstCells_some w s n a len cap _ (by simp only [List.length_take]; omega) (fun j v hj => by
        obtain ⟨hlt, hj'⟩ := List.getElem?_eq_some_iff.1 hj
        have hj2 : j < n * s := by simp at hlt; omega
        rw [List.getElem?_take_of_lt hj2] at hj
        exact hcl j v hj)
    · simp [Builtin.firstCells]
    · cases hx with
      | d _ x hd => cases hd; exact (hns _ rfl).elim
      | sl _ id ver off len hlt hver hv =>
        simp only [srcV] at he
        split at he
        · rename_i p B _ hB
          obtain ⟨hB, hver'⟩ := rdBlk_some hB
          obtain ⟨_, hbad⟩ := hv B hB hver'
          cases hbad
        · cases he
      | _ => simp [srcV] at he
  · have hf := take_mul_flatten s es hs 0 n
    simp only [List.drop_zero, Nat.zero_mul] at hf
    rw [hf]
    exact hr.take (n * s)

def evCopy (P : Program) (h : Hp) (t tx : TypeId) (d x : V) : Option (V × List Nat × List (Nat × Blk)) :=
  match telem P t, d, x with
  | _, _, .d (.str _) => none
  | some (_, s, _), .sl id ver off len, x =>
    match rdBlk h id ver, srcV P h tx s x with
    | some B, some (es, rd) =>
      if B.s = s then
        some (.d (.int .i64 (min es.length len : Nat)), id :: rd, [(id, { B with es := B.es.take off ++ es.take (min es.length len) ++ B.es.drop (off + min es.length len) })])
      else none
    | _, _ => none
  | _, _, _ => none

theorem evCopy_sound (H : HR w S h m nx) {t tx ty : TypeId} {cd cx : Value} {d x : V} (hd : RV w S h m nx cd d) (hx : RV w S h m nx cx x)
    {v : V} {rd : List Nat} {wr : List (Nat × Blk)} (he : evCopy P h t tx d x = some (v, rd, wr)) :
    ∃ i B cv w', wr = [(i, B)] ∧ h i ≠ none ∧ (Builtin.copy_ #[t, tx] ty #[cd, cx]).run P w = .ok cv w' ∧ Ext w S h m nx w' S (h.upd i B) m nx ∧ HR w' S (h.upd i B) m nx ∧ RV w' S (h.upd i B) m nx cv v := by
  unfold evCopy at he
  split at he
  · cases he
  · rename_i e s b id ver off len hte hns
    obtain ⟨hu, inf, hinf, hsz, hby⟩ := telem_some hte
    split at he
    · rename_i B es rd' hB hsrc
      obtain ⟨hB, hver'⟩ := rdBlk_some hB
      split at he
      · rename_i hBs
        subst hBs
        simp only [Option.some.injEq, Prod.mk.injEq] at he
        obtain ⟨rfl, rfl, rfl⟩ := he
        obtain ⟨_, _, _, hse, _⟩ := srcV_sound H hx hsrc
        obtain ⟨hlen, news, hnl, hfirst, hrel, hone⟩ := srcV_first H hx hsrc (min es.length len) (Nat.min_le_left _ _) hns
        cases hd with
        | sl _ _ _ _ _ hlt hver hv =>
          obtain ⟨hle, rfl⟩ := hv B hB hver'
          obtain ⟨C, hC, hCl, hcap, hmax, hs, honeC, hrr⟩ := H.blk id B hB
          have hfl := flatten_len B.s B.es hs
          generalize hk : min es.length len = k at *
          have hkl : off + k ≤ B.es.length := by omega
          have hb1 : off * B.s + k * B.s ≤ B.es.flatten.length := by rw [hfl, ← Nat.add_mul]; exact Nat.mul_le_mul_right _ hkl
          have hb2 : B.es.flatten.length ≤ C.length := by rw [hfl, hCl]; exact Nat.mul_le_mul_right _ hcap
          have hst := run_storeCells_at P (m id).1 (off * B.s) B.T news 0 C.toArray w hC (by simp only [List.size_toArray]; omega) hone
          simp only [Nat.add_zero] at hst
          have hkm : Nat.min es.length len = k := hk
          have hrun : (Builtin.copy_ #[t, tx] ty #[.slice (some ⟨(m id).1, off * B.s, none⟩) len ((m id).2 - off), cx]).run P w = .ok (goInt k) (w.setRow (m id).1 (C.take (off * B.s) ++ news ++ C.drop (off * B.s + news.length)).toArray) := by
            simp [Builtin.copy_, run_underlying hu, hlen, run_size_info hinf hsz, hkm, hfirst, hst]
          have hes2 : ∀ x ∈ B.es.take off ++ es.take k ++ B.es.drop (off + k), x.length = B.s := fun x hx' => by
            rcases List.mem_append.1 hx' with hx' | hx'
            · rcases List.mem_append.1 hx' with hx' | hx'
              · exact hs x (List.mem_of_mem_take hx')
              · exact hse x (List.mem_of_mem_take hx')
            · exact hs x (List.mem_of_mem_drop hx')
          have hek : (es.take k).length = k := by simp; omega
          have hlen2 : (B.es.take off ++ es.take k ++ B.es.drop (off + k)).length = B.es.length := by
            simp only [List.length_append, List.length_take, List.length_drop]; omega
          have hflat : (B.es.take off ++ es.take k ++ B.es.drop (off + k)).flatten = B.es.flatten.take (off * B.s) ++ (es.take k).flatten ++ B.es.flatten.drop (off * B.s + k * B.s) := by
            have f1 := take_mul_flatten B.s B.es hs 0 off
            simp only [List.drop_zero, Nat.zero_mul] at f1
            have f2 := take_mul_flatten B.s B.es hs (off + k) B.es.length
            have e2 : (B.es.drop (off + k)).take B.es.length = B.es.drop (off + k) := List.take_of_length_le (by simp)
            rw [e2] at f2
            have e3 : (B.es.flatten.drop ((off + k) * B.s)).take (B.es.length * B.s) = B.es.flatten.drop ((off + k) * B.s) := List.take_of_length_le (by rw [List.length_drop]; omega)
            rw [e3, Nat.add_mul] at f2
            rw [List.flatten_append, List.flatten_append, f1, f2]
          have hrelC : All2 (RV w S h m nx) (C.take B.es.flatten.length) B.es.flatten := by
            refine ⟨by simp only [List.length_take]; omega, fun j h1 h2 => ?_⟩
            simpa using hrr j (by simp only [List.length_take] at h1; omega) h2
          have hrel2 : All2 (RV w S h m nx) (C.take (off * B.s) ++ news ++ (C.take B.es.flatten.length).drop (off * B.s + k * B.s)) (B.es.take off ++ es.take k ++ B.es.drop (off + k)).flatten := by
            rw [hflat]
            have := hrelC.take (off * B.s)
            rw [List.take_take, Nat.min_eq_left (by omega)] at this
            exact (this.append hrel).append (hrelC.drop (off * B.s + k * B.s))
          have hw := H.write id B { B with es := B.es.take off ++ es.take k ++ B.es.drop (off + k) } hB rfl rfl (Nat.le_refl _) (fun _ => hlen2) (by simp only [hlen2]; exact hcap) hes2 C (C.take (off * B.s) ++ news ++ C.drop (off * B.s + news.length)) hC
            (by simp only [List.length_append, List.length_take, List.length_drop]; omega)
            (fun u hu' => by
              rcases List.mem_append.1 hu' with hu' | hu'
              · rcases List.mem_append.1 hu' with hu' | hu'
                · exact honeC u (List.mem_of_mem_take hu')
                · exact hone u hu'
              · exact honeC u (List.mem_of_mem_drop hu'))
            (fun j h1 h2 => by
              have h3 : j < (C.take (off * B.s) ++ news ++ (C.take B.es.flatten.length).drop (off * B.s + k * B.s)).length := by rw [hrel2.1]; exact h2
              have := hrel2.2 j h3 h2
              have e1 : (C.take (off * B.s) ++ news ++ (C.take B.es.flatten.length).drop (off * B.s + k * B.s))[j]? = (C.take (off * B.s) ++ news ++ C.drop (off * B.s + news.length))[j]? := by
                by_cases c : j < (C.take (off * B.s) ++ news).length
                · rw [List.getElem?_append_left c, List.getElem?_append_left c]
                · rw [List.getElem?_append_right (by omega), List.getElem?_append_right (by omega), List.getElem?_drop, List.getElem?_drop, hnl]
                  simp only [List.length_append, List.length_take, List.length_drop] at c h3 ⊢
                  rw [List.getElem?_take_of_lt (by omega)]
              rw [List.getElem?_eq_getElem h3, List.getElem?_eq_getElem h1] at e1
              rw [← Option.some.inj e1]
              exact this)
          exact ⟨id, _, goInt k, _, rfl, by rw [hB]; simp, hrun, hw.1, hw.2, .d _ _ (.int _ _)⟩
      · cases he
    · cases he
  · cases he

/-! ### lengths -/
def evLen (P : Program) (h : Hp) (t : TypeId) (x : V) : Option (V × List Nat) :=
  match x with
  | .d (.str s) => match P.underlying t with
    | some .string => some (.d (.int .i64 s.size), [])
    | _ => none
  | .d (.ls _ es) => match telem P t with
    | some _ => some (.d (.int .i64 es.length), [])
    | none => none
  | .d .nils => match telem P t with
    | some _ => some (.d (.int .i64 0), [])
    | none => none
  | .sl id ver _ len => match telem P t, rdBlk h id ver with
    | some _, some _ => some (.d (.int .i64 len), [id])
    | _, _ => none
  | _ => none
theorem evLen_sound {t ty : TypeId} {cx : Value} {x : V} (hx : RV w S h m nx cx x) {v : V} {rd : List Nat} (he : evLen P h t x = some (v, rd)) :
    ∃ cv, (Builtin.len_ #[t] ty #[cx]).run P w = .ok cv w ∧ RV w S h m nx cv v := by
  unfold evLen at he
  split at he
  · rename_i s
    have hcx : cx = .string s := by cases hx with | d _ _ hd => cases hd; rfl
    subst hcx
    split at he
    · rename_i hu
      simp only [Option.some.injEq, Prod.mk.injEq] at he
      obtain ⟨rfl, rfl⟩ := he
      exact ⟨_, by simp [Builtin.len_, run_underlying hu]; rfl, .d _ _ (.int _ _)⟩
    · cases he
  · split at he
    · rename_i p hte
      obtain ⟨hu, _⟩ := telem_some (e := p.1) (s := p.2.1) (b := p.2.2) hte
      simp only [Option.some.injEq, Prod.mk.injEq] at he
      obtain ⟨rfl, rfl⟩ := he
      cases hx with
      | d _ _ hd =>
        cases hd with
        | ls0 => exact ⟨_, by simp [Builtin.len_, run_underlying hu]; rfl, .d _ _ (.int _ _)⟩
        | ls => exact ⟨_, by simp [Builtin.len_, run_underlying hu]; rfl, .d _ _ (.int _ _)⟩
    · cases he
  · split at he
    · rename_i p hte
      obtain ⟨hu, _⟩ := telem_some (e := p.1) (s := p.2.1) (b := p.2.2) hte
      simp only [Option.some.injEq, Prod.mk.injEq] at he
      obtain ⟨rfl, rfl⟩ := he
      have hcx : cx = .slice none 0 0 := by cases hx with | d _ _ hd => cases hd; rfl
      subst hcx
      exact ⟨_, by simp [Builtin.len_, run_underlying hu]; rfl, .d _ _ (.int _ _)⟩
    · cases he
  · split at he
    · rename_i p B hte hB
      obtain ⟨hu, _⟩ := telem_some (e := p.1) (s := p.2.1) (b := p.2.2) hte
      obtain ⟨hB, hver'⟩ := rdBlk_some hB
      simp only [Option.some.injEq, Prod.mk.injEq] at he
      obtain ⟨rfl, rfl⟩ := he
      cases hx with
      | sl _ _ _ _ _ hlt hver hv =>
        obtain ⟨_, rfl⟩ := hv B hB hver'
        exact ⟨_, by simp [Builtin.len_, run_underlying hu]; rfl, .d _ _ (.int _ _)⟩
    · cases he
  · cases he

/-! ### conversions -/
def byteOf1 : List V → Option Int
  | [.d (.int .u8 n)] => some n
  | _ => none
def bytesOf : List (List V) → Option (List Int)
  | [] => some []
  | e :: r => match byteOf1 e, bytesOf r with
    | some n, some ns => some (n :: ns)
    | _, _ => none
def strOf (ns : List Int) : ByteArray := ns.foldl (fun r n => r.push (UInt8.ofNat n.toNat)) ByteArray.empty

theorem bytesOf_rv : ∀ (es : List (List V)) (ns : List Int) (cells : List Value), bytesOf es = some ns → All2 (RV w S h m nx) cells es.flatten → cells = ns.map (Value.int .u8)
  | [], ns, cells, hb, hc => by
    simp [bytesOf] at hb
    subst hb
    exact List.eq_nil_of_length_eq_zero (by simpa using hc.1)
  | e :: r, ns, cells, hb, hc => by
    unfold bytesOf at hb
    split at hb
    · rename_i n ns' h1 hr
      cases hb
      unfold byteOf1 at h1
      split at h1
      · cases h1
        cases cells with
        | nil => have := hc.1; simp at this
        | cons c cs =>
          have h0 := hc.2 0 (by simp) (by simp)
          simp at h0
          have hcn : c = .int .u8 n := by cases h0 with | d _ _ hd => cases hd; rfl
          have ht : All2 (RV w S h m nx) cs r.flatten := by simpa using hc.drop 1
          rw [bytesOf_rv r ns' cs hr ht, hcn]
          rfl
      · cases h1
    · cases hb

def evConvert (P : Program) (h : Hp) (src dst : TypeId) (x : V) : Option (V × List Nat) :=
  match x with
  | .d (.int _ n) => match P.underlying src, P.underlying dst with
    | some _, some (.int k) => some (.d (.int k (k.wrap n)), [])
    | _, _ => none
  | .d (.str s) => match P.underlying src, P.underlying dst with
    | some .string, some .string => some (.d (.str s), [])
    | _, _ => none
  | x => match telem P src, P.underlying dst, srcV P h src 1 x with
    | some (e, 1, _), some .string, some (es, rd) => match P.underlying e, bytesOf es with
      | some (.int .u8), some ns => some (.d (.str (strOf ns)), rd)
      | _, _ => none
    | _, _, _ => none

theorem evConvert_sound (H : HR w S h m nx) {src dst : TypeId} {cx : Value} {x : V} (hx : RV w S h m nx cx x) {v : V} {rd : List Nat} (he : evConvert P h src dst x = some (v, rd)) :
    ∃ cv, (convert src dst cx).run P w = .ok cv w ∧ RV w S h m nx cv v := by
  unfold evConvert at he
  split at he
  · rename_i k n
    have hcx : cx = .int k n := by cases hx with | d _ _ hd => cases hd; rfl
    subst hcx
    split at he
    · rename_i d k' hs hd
      simp only [Option.some.injEq, Prod.mk.injEq] at he
      obtain ⟨rfl, rfl⟩ := he
      exact ⟨.int k' (k'.wrap n), by simp [convert, run_underlying hs, run_underlying hd, Conv.intToInt], .d _ _ (.int _ _)⟩
    · cases he
  · rename_i s
    have hcx : cx = .string s := by cases hx with | d _ _ hd => cases hd; rfl
    subst hcx
    split at he
    · rename_i hs hd
      simp only [Option.some.injEq, Prod.mk.injEq] at he
      obtain ⟨rfl, rfl⟩ := he
      exact ⟨.string s, by simp [convert, run_underlying hs, run_underlying hd], .d _ _ (.str _)⟩
    · cases he
  · rename_i hn1 hn2
    split at he
    · rename_i e b es rd' hte hd hsrc
      obtain ⟨hu, inf, hinf, hsz, _⟩ := telem_some hte
      split at he
      · rename_i ns hue hb
        simp only [Option.some.injEq, Prod.mk.injEq] at he
        obtain ⟨rfl, rfl⟩ := he
        obtain ⟨news, hS, hrel, hs, hlies⟩ := srcV_sound H hx hsrc
        have hc := bytesOf_rv es ns news hb hrel
        refine ⟨.string (strOf ns), ?_, .d _ _ (.str _)⟩
        have hlenw := hS.len w
        have hnl := hS.newsLen
        rcases hlies with ⟨a, len, cap, rfl, hcl⟩ | ⟨len, cap, rfl, rfl⟩ | ⟨b', rfl⟩
        · simp [Builtin.lenOf] at hlenw
          rw [run_convert_bytes_string w src dst e _ _ _ hu hue hd]
          have hl : (loadCells a len).run P w = .ok (ns.map (Value.int .u8)).toArray w := by
            have := run_loadCells_list (P := P) w a news hcl
            rw [← hc]
            have hln : news.length = len := by omega
            rw [hln] at this
            exact this
          rw [run_bytesToString w a len cap ns hl]
          rfl
        · rw [run_convert_bytes_string w src dst e _ _ _ hu hue hd]
          have : ns = [] := by cases ns with | nil => rfl | cons a b => simp at hc
          subst this
          rfl
        · cases hx with
          | d _ _ hd' => cases hd'; exact (hn2 _ rfl).elim
          | sl _ id ver off len hlt hver hv =>
            simp only [srcV] at hsrc
            split at hsrc
            · rename_i p B _ hB
              obtain ⟨hB, hver'⟩ := rdBlk_some hB
              obtain ⟨_, hbad⟩ := hv B hB hver'
              cases hbad
            · cases hsrc
          | _ => simp [srcV] at hsrc
      · cases he
    · cases he

def evUn (op : UnOp) (x : V) : Option V :=
  match op, x with
  | .not, .d (.bool b) => some (.d (.bool (!b)))
  | .neg, .d (.int k n) => some (.d (.int k (k.wrap (0 - n))))
  | .xor, .d (.int k n) => some (.d (.int k (k.wrap (BitVec.ofInt k.bits (if k.signed then -1 else k.max) ^^^ BitVec.ofInt k.bits n).toNat)))
  | _, _ => none
theorem evUn_sound {op : UnOp} {cx : Value} {x : V} (hx : RV w S h m nx cx x) {v : V} (he : evUn op x = some v) :
    ∃ cv, (Op.unary op cx).run P w = .ok cv w ∧ RV w S h m nx cv v := by
  unfold evUn at he
  split at he
  · rename_i b
    have hcx : cx = .bool b := by cases hx with | d _ _ hd => cases hd; rfl
    subst hcx; cases he
    exact ⟨_, rfl, .d _ _ (.bool _)⟩
  · rename_i k n
    have hcx : cx = .int k n := by cases hx with | d _ _ hd => cases hd; rfl
    subst hcx; cases he
    exact ⟨_, rfl, .d _ _ (.int _ _)⟩
  · rename_i k n
    have hcx : cx = .int k n := by cases hx with | d _ _ hd => cases hd; rfl
    subst hcx; cases he
    exact ⟨_, rfl, .d _ _ (.int _ _)⟩
  · cases he

end
end Go.Proofs.YtepahgbgijmipaaEv
