/- A logic over abstract states for walks, seventh part: append, copy, lengths, conversions, equality. -/
import Derived.Test.YtepahgbgijmipaaEv6
namespace Go.Proofs.YtepahgbgijmipaaEv
open Go Go.RowKit
section
variable {P : Program} {w : World} {S : Nat → Prop} {h : Hp} {m : Nat → Nat × Nat} {nx : Nat → Prop}

/-- What the second argument of an append or a copy yields. -/
def srcV (P : Program) (h : Hp) (tx : TypeId) (s : Nat) (x : V) : Option (List (List V) × List Nat) :=
  match x with
  | .d (.ls s' es) => match telem P tx with
    | some _ => if s' = s then some (es.map fun e => e.map .d, []) else none
    | none => none
  | .d .nils => match telem P tx with
    | some _ => some ([], [])
    | none => none
  | .d (.str b) => match P.underlying tx with
    | some .string => if s = 1 then some (b.data.toList.map fun c => [.d (.int .u8 c.toNat)], []) else none
    | _ => none
  | .sl id ver off len => match telem P tx, rdBlk h id ver with
    | some _, some B => if B.s = s then some ((B.es.drop off).take len, [id]) else none
    | _, _ => none
  | _ => none

theorem map_d_flatten (es : List (List D)) : (es.map fun e => e.map V.d).flatten = es.flatten.map V.d := by
  simp [List.map_flatten]

theorem take_mul_flatten {α : Type} (s : Nat) (es : List (List α)) (hs : ∀ e ∈ es, e.length = s) : ∀ off len, ((es.drop off).take len).flatten = (es.flatten.drop (off * s)).take (len * s) := by
  have dropf : ∀ (es : List (List α)) (off : Nat), (∀ e ∈ es, e.length = s) → (es.drop off).flatten = es.flatten.drop (off * s) := by
    intro es off
    induction off generalizing es with
    | zero => intro _; simp
    | succ n ih =>
      intro hs
      cases es with
      | nil => simp
      | cons e es =>
        have he := hs e (by simp)
        rw [List.drop_succ_cons, ih es (fun x hx => hs x (by simp [hx])), List.flatten_cons, List.drop_append, List.drop_of_length_le (l := e) (by rw [he, Nat.add_mul]; omega)]
        have : (n + 1) * s - e.length = n * s := by rw [he, Nat.add_mul]; omega
        rw [this]; rfl
  have takef : ∀ (es : List (List α)) (len : Nat), (∀ e ∈ es, e.length = s) → (es.take len).flatten = es.flatten.take (len * s) := by
    intro es len
    induction len generalizing es with
    | zero => intro _; simp
    | succ n ih =>
      intro hs
      cases es with
      | nil => simp
      | cons e es =>
        have he := hs e (by simp)
        rw [List.take_succ_cons, List.flatten_cons, ih es (fun x hx => hs x (by simp [hx])), List.flatten_cons, List.take_append, List.take_of_length_le (l := e) (by rw [he, Nat.add_mul]; omega)]
        have : (n + 1) * s - e.length = n * s := by rw [he, Nat.add_mul]; omega
        rw [this]
  intro off len
  rw [takef _ len (fun x hx => hs x (List.mem_of_mem_drop hx)), dropf es off hs]

/-- Where what is appended or copied lies. -/
def Lies (w : World) (cx : Value) (news : List Value) : Prop :=
  (∃ a len cap, cx = .slice (some a) len cap ∧ ∀ j u, news[j]? = some u → w.cell? (a.add j) = some u) ∨ (∃ len cap, cx = .slice none len cap ∧ news = []) ∨ ∃ b, cx = .string b

theorem srcV_sound (H : HR w S h m nx) {tx : TypeId} {s : Nat} {cx : Value} {x : V} (hx : RV w S h m nx cx x) {es : List (List V)} {rd : List Nat} (he : srcV P h tx s x = some (es, rd)) :
    ∃ news, Src P s tx cx es.length news w ∧ All2 (RV w S h m nx) news es.flatten ∧ (∀ e ∈ es, e.length = s) ∧ Lies w cx news := by
  unfold srcV at he
  split at he
  · rename_i s' ds
    split at he
    · rename_i p hte
      obtain ⟨e, q, b⟩ := p
      obtain ⟨hu, _⟩ := telem_some hte
      split at he
      · rename_i hs
        subst hs
        simp only [Option.some.injEq, Prod.mk.injEq] at he
        obtain ⟨rfl, rfl⟩ := he
        cases hx with
        | d _ _ hd =>
          cases hd with
          | ls0 _ a cap =>
            cases a with
            | none => exact ⟨[], Src.ofNil w hu cap, by simpa using All2.nil, by simp, .inr (.inl ⟨_, _, rfl, rfl⟩)⟩
            | some a => exact ⟨[], Src.ofSlice w hu a 0 cap [] (by simp) (by simp) (by simp), by simpa using All2.nil, by simp, .inl ⟨a, _, _, rfl, by simp⟩⟩
          | ls b off cap _ _ cells hS hcap hs hl hcc hr =>
            have hfl := flatten_len s' ds hs
            have hcl : ∀ j u, cells[j]? = some u → w.cell? ((⟨b, off, none⟩ : Addr).add j) = some u := fun j u hu' => by
              obtain ⟨hj, rfl⟩ := List.getElem?_eq_some_iff.1 hu'
              rw [addr_add]; exact hcc j hj
            refine ⟨cells, ?_, ?_, ?_, .inl ⟨_, _, _, rfl, hcl⟩⟩
            · have := Src.ofSlice (P := P) (size := s') w hu ⟨b, off, none⟩ ds.length cap cells (by omega) hcl (fun u hu' => by
                obtain ⟨j, hj, rfl⟩ := List.mem_iff_getElem.1 hu'
                exact (hr j hj (by omega)).one)
              simpa using this
            · rw [map_d_flatten]
              exact ⟨by rw [List.length_map]; exact hl, fun j h1 h2 => by rw [List.getElem_map]; exact RV.d _ _ (hr j h1 (by rw [List.length_map] at h2; exact h2))⟩
            · intro e hmem
              simp only [List.mem_map] at hmem
              obtain ⟨e', he', rfl⟩ := hmem
              simpa using hs e' he'
      · cases he
    · cases he
  · split at he
    · rename_i p hte
      obtain ⟨e, q, b⟩ := p
      obtain ⟨hu, _⟩ := telem_some hte
      simp only [Option.some.injEq, Prod.mk.injEq] at he
      obtain ⟨rfl, rfl⟩ := he
      have hcx : cx = .slice none 0 0 := by cases hx with | d _ _ hd => cases hd; rfl
      subst hcx
      exact ⟨[], Src.ofNil w hu 0, by simpa using All2.nil, by simp, .inr (.inl ⟨_, _, rfl, rfl⟩)⟩
    · cases he
  · rename_i b
    split at he
    · rename_i hu
      split at he
      · rename_i hs
        subst hs
        simp only [Option.some.injEq, Prod.mk.injEq] at he
        obtain ⟨rfl, rfl⟩ := he
        have hcx : cx = .string b := by cases hx with | d _ _ hd => cases hd; rfl
        subst hcx
        refine ⟨byteCells b, ?_, ?_, ?_, .inr (.inr ⟨b, rfl⟩)⟩
        · have := Src.ofString (P := P) w hu b
          simpa using this
        · have hf : (b.data.toList.map fun c => [V.d (.int .u8 c.toNat)]).flatten = b.data.toList.map fun c => V.d (.int .u8 c.toNat) := by
            induction b.data.toList with
            | nil => rfl
            | cons c cs ih => simp [ih]
          rw [hf]
          refine ⟨by simp [byteCells], fun j h1 h2 => ?_⟩
          simp only [byteCells, List.getElem_map]
          exact .d _ _ (.int _ _)
        · intro e hmem
          simp only [List.mem_map] at hmem
          obtain ⟨c, _, rfl⟩ := hmem
          rfl
      · cases he
    · cases he
  · rename_i id ver off len
    split at he
    · rename_i p B hte hB
      obtain ⟨hB, hver'⟩ := rdBlk_some hB
      obtain ⟨e, q, b⟩ := p
      obtain ⟨hu, _⟩ := telem_some hte
      split at he
      · rename_i hs'
        subst hs'
        simp only [Option.some.injEq, Prod.mk.injEq] at he
        obtain ⟨rfl, rfl⟩ := he
        cases hx with
        | sl _ _ _ _ _ hlt hver hv =>
          obtain ⟨hle, rfl⟩ := hv B hB hver'
          obtain ⟨C, hC, hCl, hcap, hmax, hs, hone, hrr⟩ := H.blk id B hB
          have hfl := flatten_len B.s B.es hs
          have hb1 : off * B.s + len * B.s ≤ B.es.flatten.length := by rw [hfl, ← Nat.add_mul]; exact Nat.mul_le_mul_right _ hle
          have hb2 : B.es.flatten.length ≤ C.length := by rw [hfl, hCl]; exact Nat.mul_le_mul_right _ hcap
          have hlen : ((B.es.drop off).take len).length = len := by simp; omega
          have hcl : ∀ j u, ((C.drop (off * B.s)).take (len * B.s))[j]? = some u → w.cell? ((⟨(m id).1, off * B.s, none⟩ : Addr).add j) = some u := fun j u hu' => by
            rw [addr_add, cell_of_row w _ _ _ _ _ hC]
            obtain ⟨hj, hj'⟩ := List.getElem?_eq_some_iff.1 hu'
            have hj2 : j < len * B.s := by simp at hj; omega
            rw [List.getElem?_take_of_lt hj2, List.getElem?_drop] at hu'
            simpa using hu'
          refine ⟨(C.drop (off * B.s)).take (len * B.s), ?_, ?_, fun e hmem => hs e (List.mem_of_mem_drop (List.mem_of_mem_take hmem)), .inl ⟨_, _, _, rfl, hcl⟩⟩
          · rw [hlen]
            exact Src.ofSlice (P := P) w hu ⟨(m id).1, off * B.s, none⟩ len _ _ (by simp; omega) hcl (fun u hu' => hone u (List.mem_of_mem_drop (List.mem_of_mem_take hu')))
          · rw [take_mul_flatten B.s B.es hs]
            refine ⟨by simp only [List.length_take, List.length_drop]; omega, fun j h1 h2 => ?_⟩
            simp only [List.length_take, List.length_drop] at h1 h2
            have := hrr (off * B.s + j) (by omega) (by omega)
            simpa using this
      · cases he
    · cases he
  · cases he

def evAppend (P : Program) (h : Hp) (id : Nat) (t tx : TypeId) (d x : V) : Option (V × List Nat × List (Nat × Blk)) :=
  match telem P t with
  | some (e, s, b) =>
    match tzero P e, srcV P h tx s x with
    | some z, some (news, rd) =>
      if z.length = s ∧ 0 < s ∧ z.all (·.oneCell') = true then
        match d with
        | .d .nils =>
          if news.length * b ≤ 140737488355328 ∧ news.length ≤ 9223372036854775807 then
            (if news.length = 0 then some (.d .nils, rd, []) else some (.sl id 0 0 news.length, rd, [(id, ⟨e, s, 0, news⟩)])) else none
        | .sl i ver off len =>
          match rdBlk h i ver with
          | some B => if B.s = s ∧ B.T = e ∧ off = 0 ∧ len = B.es.length ∧ (len + news.length) * b ≤ 140737488355328 ∧ len + news.length ≤ 9223372036854775807 then
              some (.sl i (ver + 1) 0 (len + news.length), i :: rd, [(i, ⟨e, s, ver + 1, B.es ++ news⟩)]) else none
          | none => none
        | _ => none
      else none
    | _, _ => none
  | none => none

theorem zeroCells_one {z : Array Value} (ho : z.toList.all (·.oneCell') = true) (n : Nat) : ∀ u ∈ (Builtin.zeroCells z n).toList, u.oneCell' = true := by
  intro u hu
  simp only [Builtin.zeroCells, Array.toList_map, List.mem_map] at hu
  obtain ⟨j, hj, rfl⟩ := hu
  rw [List.all_eq_true] at ho
  have hz : 0 < z.size := by
    rcases Nat.eq_zero_or_pos z.size with h0 | h0
    · rw [h0] at hj; simp at hj
    · exact h0
  have hm : j % z.size < z.size := Nat.mod_lt _ hz
  rw [getElem!_pos z (j % z.size) hm]
  exact ho _ (by simp)

theorem evAppend_sound (H : HR w S h m nx) (id : Nat) (nx' : Nat → Prop) (hid : ¬ nx id) (hn' : ∀ i, nx i → nx' i) {t tx ty : TypeId} {cd cx : Value} {d x : V} (hd : RV w S h m nx cd d) (hx : RV w S h m nx cx x)
    {v : V} {rd : List Nat} {wr : List (Nat × Blk)} (he : evAppend P h id t tx d x = some (v, rd, wr)) (hid' : wr.any (fun p => p.1 == id) = true → nx' id) :
    (wr = [] ∧ ∃ cv, (Builtin.append_ #[t, tx] ty #[cd, cx]).run P w = .ok cv w ∧ RV w S h m nx cv v) ∨
    ∃ i B cv w' m', wr = [(i, B)] ∧ (i = id ∨ h i ≠ none) ∧ (Builtin.append_ #[t, tx] ty #[cd, cx]).run P w = .ok cv w' ∧ Ext w S h m nx w' S (h.upd i B) m' nx' ∧ HR w' S (h.upd i B) m' nx' ∧ RV w' S (h.upd i B) m' nx' cv v := by
  unfold evAppend at he
  split at he
  · rename_i e s b hte
    obtain ⟨hu, inf, hinf, hsz, hby⟩ := telem_some hte
    split at he
    · rename_i z news rd' hz hsrc
      obtain ⟨inf', zv, hinf', hzv, rfl⟩ := tzero_some hz
      rw [hinf] at hinf'; cases hinf'
      subst hsz; subst hby
      obtain ⟨cn, hS, hrn, hsn, _⟩ := srcV_sound H hx hsrc
      have hnl := hS.newsLen
      split at he
      · rename_i hc
        obtain ⟨c1, c2, c3⟩ := hc
        have hzs : zv.cells.size = inf.size := by simpa using c1
        split at he
        · -- nil
          have hcd : cd = .slice none 0 0 := by cases hd with | d _ _ hd => cases hd; rfl
          subst hcd
          split at he
          · rename_i hb
            obtain ⟨hb1, hb2⟩ := hb
            split at he
            · rename_i h0
              simp only [Option.some.injEq, Prod.mk.injEq] at he
              obtain ⟨rfl, rfl, rfl⟩ := he
              refine .inl ⟨rfl, .slice none 0 0, ?_, .d _ _ .nils⟩
              have hcn : cn = [] := List.eq_nil_of_length_eq_zero (by rw [hnl, h0]; simp)
              subst hcn
              have hf := hS.cells
              rw [h0] at hf
              have hln := hS.len w
              rw [h0] at hln
              rcases hS.kind with ⟨e', hk⟩ | hk <;> simp [Builtin.append_, run_underlying hu, run_underlying hk, sizeOf, typeInfo, hinf, hln, hf]
            · rename_i h0
              simp only [Option.some.injEq, Prod.mk.injEq] at he
              obtain ⟨rfl, rfl, rfl⟩ := he
              have hr := run_append_grow_src (P := P) w t tx ty e inf zv hu hinf hzv none 0 0 [] (by simp [Builtin.firstCells]) cx news.length cn hS (by omega) (by omega) (growslice_fits (by omega) (by simpa using hb1))
              simp only [Nat.zero_add, List.nil_append] at hr
              have hge := grownCap_ge w news.length 0 e
              have hcm := grownCap_le_maxLen w news.length 0 e (by simp only [maxLen]; exact hb2)
              obtain ⟨w', m', hw, ex, hr', hv⟩ := evRow_sound H (w1 := w.drew) rfl rfl rfl rfl e inf.size id nx' hn' hid (hid' (by simp)) news (grownCap w news.length 0 e) (cn.toArray ++ Builtin.zeroCells zv.cells (grownCap w news.length 0 e - news.length)).toList
                (by
                  simp only [Array.toList_append, List.length_append, Array.length_toList, size_zeroCells, hzs, hnl]
                  rw [← Nat.add_mul]; congr 1; omega) hge hcm hsn
                (fun u hu' => by
                  rw [Array.toList_append] at hu'
                  rcases List.mem_append.1 hu' with hu' | hu'
                  · exact hS.one u hu'
                  · exact zeroCells_one c3 _ u hu')
                (fun j h1 h2 => by
                  have hj : j < cn.length := by have := hrn.1; omega
                  have e1 : (cn.toArray ++ Builtin.zeroCells zv.cells (grownCap w news.length 0 e - news.length)).toList[j] = cn[j] := by
                    simp [Array.getElem_append, hj]
                  rw [e1]
                  exact hrn.2 j hj h2)
              refine .inr ⟨id, _, _, w', m', rfl, .inl rfl, ?_, ex, hr', hv⟩
              rw [hr, hw]
          · cases he
        · rename_i i ver off len
          split at he
          · rename_i B hB
            obtain ⟨hB, hver'⟩ := rdBlk_some hB
            split at he
            · rename_i hcond
              obtain ⟨hBs, hBT, rfl, rfl, hb1, hb2⟩ := hcond
              simp only [Option.some.injEq, Prod.mk.injEq] at he
              obtain ⟨rfl, rfl, rfl⟩ := he
              have hilt := H.lt i B hB
              cases hd with
              | sl _ _ _ _ _ hlt hver hv =>
                obtain ⟨_, rfl⟩ := hv B hB hver'
                obtain ⟨C, hC, hCl, hcap, hmax, hs, hone, hrr⟩ := H.blk i B hB
                have hfl := flatten_len B.s B.es hs
                have hsall : ∀ x ∈ B.es ++ news, x.length = inf.size := fun x hx' => by
                  rcases List.mem_append.1 hx' with hx' | hx'
                  · rw [← hBs]; exact hs x hx'
                  · exact hsn x hx'
                have hbC : B.es.length * B.s ≤ C.length := by rw [hCl]; exact Nat.mul_le_mul_right _ hcap
                have holdrel : All2 (RV w S h m nx) (C.take (B.es.length * B.s)) B.es.flatten := by
                  refine ⟨by simp only [List.length_take]; omega, fun j h1 h2 => ?_⟩
                  simp only [List.length_take] at h1
                  simpa using hrr j (by omega) h2
                have hrel : All2 (RV w S h m nx) (C.take (B.es.length * B.s) ++ cn) (B.es ++ news).flatten := by
                  rw [List.flatten_append]; exact holdrel.append hrn
                simp only [Nat.zero_mul, Nat.sub_zero]
                by_cases hroom : B.es.length + news.length ≤ (m i).2
                · -- there is room
                  have hfit : B.es.length * B.s + cn.length ≤ C.length := by rw [hCl, hnl, ← hBs, ← Nat.add_mul]; exact Nat.mul_le_mul_right _ hroom
                  have hst := run_storeCells_at P (m i).1 (B.es.length * B.s) B.T cn 0 C.toArray w hC (by simpa using hfit) hS.one
                  simp only [Nat.add_zero] at hst
                  have hrun : (Builtin.append_ #[t, tx] ty #[.slice (some ⟨(m i).1, 0, none⟩) B.es.length (m i).2, cx]).run P w = .ok (.slice (some ⟨(m i).1, 0, none⟩) (B.es.length + news.length) (m i).2) (w.setRow (m i).1 (C.take (B.es.length * B.s) ++ cn ++ C.drop (B.es.length * B.s + cn.length)).toArray) := by
                    rw [hBs] at hst ⊢
                    rcases hS.kind with ⟨e', hk⟩ | hk <;> simp [Builtin.append_, run_underlying hu, run_underlying hk, sizeOf, typeInfo, hinf, hS.len, hroom, hS.cells, addr_add, hst]
                  have hw := H.write i B ⟨e, inf.size, ver + 1, B.es ++ news⟩ hB hBT.symm hBs.symm (by simp; omega) (by simp; omega) (by simpa using hroom) hsall C (C.take (B.es.length * B.s) ++ cn ++ C.drop (B.es.length * B.s + cn.length)) hC
                    (by simp only [List.length_append, List.length_take, List.length_drop]; omega)
                    (fun u hu' => by
                      rcases List.mem_append.1 hu' with hu' | hu'
                      · rcases List.mem_append.1 hu' with hu' | hu'
                        · exact hone u (List.mem_of_mem_take hu')
                        · exact hS.one u hu'
                      · exact hone u (List.mem_of_mem_drop hu'))
                    (fun j h1 h2 => by
                      have hj : j < (C.take (B.es.length * B.s) ++ cn).length := by rw [hrel.1]; exact h2
                      rw [List.getElem_append_left hj]
                      exact hrel.2 j hj h2)
                  refine .inr ⟨i, _, _, _, m, rfl, .inr (by rw [hB]; simp), hrun, hw.1.trans (Ext.bump hn'), hw.2.bump hn', ?_⟩
                  refine .sl _ i (ver + 1) 0 _ (hn' _ hilt) (fun B' hB' => ?_) (fun B' hB' _ => ?_)
                  · simp only [Hp.upd, if_true, Option.some.injEq] at hB'; subst hB'; simp
                  · simp only [Hp.upd, if_true, Option.some.injEq] at hB'; subst hB'; simp
                · -- there is none
                  have holds : (Builtin.firstCells inf.size B.es.length (.slice (some ⟨(m i).1, 0, none⟩) B.es.length (m i).2)).run P w.drew = .ok (C.take (B.es.length * B.s)).toArray w.drew := by
                    refine run_firstCells_some w.drew inf.size _ _ _ _ _ (by simp only [List.length_take]; rw [← hBs]; omega) (fun j u hu' => ?_)
                    rw [addr_add, cell_of_row w.drew _ _ _ _ _ hC]
                    obtain ⟨hj, hj'⟩ := List.getElem?_eq_some_iff.1 hu'
                    have hj2 : j < B.es.length * B.s := by simp at hj; omega
                    rw [List.getElem?_take_of_lt hj2] at hu'
                    simpa using hu'
                  have hr := run_append_grow_src (P := P) w t tx ty e inf zv hu hinf hzv _ B.es.length (m i).2 _ holds cx news.length cn hS (by omega) (by omega) (growslice_fits (by omega) hb1)
                  have hge := grownCap_ge w (B.es.length + news.length) (m i).2 e
                  have hcm := grownCap_le_maxLen w (B.es.length + news.length) (m i).2 e (by simp only [maxLen]; exact hb2)
                  have ha := H.alloc (w1 := w.drew) rfl rfl rfl rfl i hn' (hn' _ hilt) ⟨e, inf.size, ver + 1, B.es ++ news⟩ (.inr ⟨B, hB, by simp; omega⟩) (grownCap w (B.es.length + news.length) (m i).2 e)
                    ((C.take (B.es.length * B.s) ++ cn).toArray ++ Builtin.zeroCells zv.cells (grownCap w (B.es.length + news.length) (m i).2 e - (B.es.length + news.length))).toList
                    (by
                      simp only [Array.toList_append, List.length_append, Array.length_toList, size_zeroCells, hzs, hnl, List.length_take]
                      rw [Nat.min_eq_left hbC, hBs, ← Nat.add_mul, ← Nat.add_mul]; congr 1; omega)
                    (by simpa using hge) hcm hsall
                    (fun u hu' => by
                      rw [Array.toList_append] at hu'
                      rcases List.mem_append.1 hu' with hu' | hu'
                      · rcases List.mem_append.1 hu' with hu' | hu'
                        · exact hone u (List.mem_of_mem_take hu')
                        · exact hS.one u hu'
                      · exact zeroCells_one c3 _ u hu')
                    (fun j h1 h2 => by
                      have hj : j < (C.take (B.es.length * B.s) ++ cn).length := by rw [hrel.1]; exact h2
                      have e1 : ((C.take (B.es.length * B.s) ++ cn).toArray ++ Builtin.zeroCells zv.cells (grownCap w (B.es.length + news.length) (m i).2 e - (B.es.length + news.length))).toList[j] = (C.take (B.es.length * B.s) ++ cn)[j] := by
                        have e2 : ((C.take (B.es.length * B.s) ++ cn).toArray ++ Builtin.zeroCells zv.cells (grownCap w (B.es.length + news.length) (m i).2 e - (B.es.length + news.length))).toList = (C.take (B.es.length * B.s) ++ cn) ++ (Builtin.zeroCells zv.cells (grownCap w (B.es.length + news.length) (m i).2 e - (B.es.length + news.length))).toList := by
                          rw [Array.toList_append]
                        rw [List.getElem_of_eq e2, List.getElem_append_left hj]
                      rw [e1]
                      exact hrel.2 j hj h2)
                  refine .inr ⟨i, _, .slice (some ⟨w.heap.size, 0, none⟩) (B.es.length + news.length) (grownCap w (B.es.length + news.length) (m i).2 e), _, _, rfl, .inr (by rw [hB]; simp), ?_, ha.1, ha.2, ?_⟩
                  · rw [hr]
                  · refine .sl _ i (ver + 1) 0 _ (hn' _ hilt) (fun B' hB' => ?_) (fun B' hB' _ => ?_)
                    · simp only [Hp.upd, if_true, Option.some.injEq] at hB'; subst hB'; simp
                    · simp only [Hp.upd, if_true, Option.some.injEq] at hB'; subst hB'; simp
            · cases he
          · cases he
        · cases he
      · cases he
    · cases he
  · cases he

end
end Go.Proofs.YtepahgbgijmipaaEv
