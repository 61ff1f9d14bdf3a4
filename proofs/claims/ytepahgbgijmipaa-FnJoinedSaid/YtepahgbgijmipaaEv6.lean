/- A logic over abstract states for walks, sixth part: slices that grow, slicing, conversions, equality. -/
import Derived.Test.YtepahgbgijmipaaEv5
namespace Go.Proofs.YtepahgbgijmipaaEv
open Go Go.RowKit
section
variable {P : Program} {w : World} {S : Nat → Prop} {h : Hp} {m : Nat → Nat × Nat} {nx : Nat → Prop}

/-- The elements of a slice literal, laid over zeros. -/
def fillE (h : Hp) (s : Nat) : List (List V) → List (Nat × V) → Option (List (List V))
  | es, [] => some es
  | es, (i, v) :: rest =>
    match cellsV h v with
    | some cs => if cs.length = s ∧ i < es.length then fillE h s (es.set i cs) rest else none
    | none => none
theorem fillE_sound (s : Nat) : ∀ (ps : List (Nat × V)) (cps : List (Nat × Value)) (es : List (List V)) (cc : Array Value), All2 (fun a b => a.1 = b.1 ∧ RV w S h m nx a.2 b.2) cps ps →
    (∀ e ∈ es, e.length = s) → All2 (RV w S h m nx) cc.toList es.flatten → (∀ u ∈ cc.toList, u.oneCell' = true) → ∀ out, fillE h s es ps = some out →
    (∃ co, Instr.fill (fun i => some (i * s, s)) cc cps = some co ∧ All2 (RV w S h m nx) co.toList out.flatten ∧ (∀ u ∈ co.toList, u.oneCell' = true)) ∧ out.length = es.length ∧ (∀ e ∈ out, e.length = s)
  | [], cps, es, cc, hp, hs, hc, ho, out, he => by
    have : cps = [] := List.eq_nil_of_length_eq_zero hp.1
    subst this
    simp only [fillE, Option.some.injEq] at he
    subst he
    exact ⟨⟨cc, rfl, hc, ho⟩, rfl, hs⟩
  | (i, v) :: ps, [], es, cc, hp, hs, hc, ho, out, he => by simp [All2] at hp
  | (i, v) :: ps, (i', cv) :: cps, es, cc, hp, hs, hc, ho, out, he => by
    have h0 := hp.2 0 (by simp) (by simp)
    simp at h0
    obtain ⟨rfl, hv⟩ := h0
    have hp' : All2 (fun a b => a.1 = b.1 ∧ RV w S h m nx a.2 b.2) cps ps := by simpa using hp.drop 1
    simp only [fillE] at he
    split at he
    · rename_i cs hcs
      split at he
      · rename_i hcond
        obtain ⟨hn, hi⟩ := hcond
        obtain ⟨h1, h2, h3⟩ := cellsV_rv hv hcs
        have hsz : cv.cells.size = s := by have := h1; simp at this; omega
        have hcl := hc.1
        have hfl := flatten_len s es hs
        have hb : i' * s + s ≤ es.length * s := by
          have := Nat.mul_le_mul_right s (show i' + 1 ≤ es.length from hi)
          rw [Nat.add_mul] at this; omega
        rw [fill_step (fun i => some (i * s, s)) cc i' cv cps (i' * s) s rfl hsz (by simp only [Array.length_toList] at hcl; omega)]
        have hfs := splice_flatten s es hs i' es[i'] cs (List.getElem?_eq_getElem hi) hn
        have ih := fillE_sound s ps cps (es.set i' cs) (cc.toList.take (i' * s) ++ cv.cells.toList ++ cc.toList.drop (i' * s + s)).toArray hp'
          (fun e hmem => by rcases List.mem_or_eq_of_mem_set hmem with hmem | rfl; exact hs e hmem; exact hn)
          (by
            rw [hfs]
            simp only [List.append_assoc]
            exact (hc.take (i' * s)).append (All2.append ⟨h1, h2⟩ (hc.drop (i' * s + s))))
          (fun u hu => by
            rcases List.mem_append.1 hu with hu | hu
            · rcases List.mem_append.1 hu with hu | hu
              · exact ho u (List.mem_of_mem_take hu)
              · exact h3 u hu
            · exact ho u (List.mem_of_mem_drop hu)) out he
        exact ⟨ih.1, by simpa using ih.2.1, ih.2.2⟩
      · cases he
    · cases he

def evBuildSlice (P : Program) (h : Hp) (id : Nat) (t : TypeId) (len : Nat) (parts : List (Nat × V)) : Option (V × List (Nat × Blk)) :=
  match telem P t with
  | some (e, s, _) =>
    match tzero P e with
    | some z => if z.length = s ∧ 0 < s ∧ len * s ≤ 16777216 ∧ z.all (·.oneCell') = true then
        (fillE h s (List.replicate len (z.map ofCell)) parts).map fun es => (.sl id 0 0 len, [(id, ⟨e, s, 0, es⟩)]) else none
    | none => none
  | none => none
theorem evBuildSlice_sound (H : HR w S h m nx) (id : Nat) (nx' : Nat → Prop) (hn : ∀ i, nx i → nx' i) (hid : ¬ nx id) (hid' : nx' id) {t : TypeId} {len : Nat} {parts : List (Nat × V)} {cps : List (Nat × Value)} (hp : All2 (fun a b => a.1 = b.1 ∧ RV w S h m nx a.2 b.2) cps parts)
    {v : V} {i : Nat} {B : Blk} (he : evBuildSlice P h id t len parts = some (v, [(i, B)])) :
    i = id ∧ ∃ cv w' m', (Instr.buildSlice t len cps.toArray).run P w = .ok cv w' ∧ Ext w S h m nx w' S (h.upd id B) m' nx' ∧ HR w' S (h.upd id B) m' nx' ∧ RV w' S (h.upd id B) m' nx' cv v := by
  unfold evBuildSlice at he
  split at he
  · rename_i e s b hte
    obtain ⟨hu, inf, hinf, hsz, _⟩ := telem_some hte
    split at he
    · rename_i z hz
      obtain ⟨inf', zv, hinf', hzv, rfl⟩ := tzero_some hz
      rw [hinf] at hinf'; cases hinf'
      split at he
      · rename_i hc
        obtain ⟨c1, c2, c3, c7⟩ := hc
        cases hf : fillE h s (List.replicate len (zv.cells.toList.map ofCell)) parts with
        | none => simp [hf] at he
        | some es =>
          simp only [hf, Option.map_some, Option.some.injEq, Prod.mk.injEq, List.cons.injEq, and_true] at he
          obtain ⟨rfl, rfl, rfl⟩ := he
          have hzs : zv.cells.size = s := by simpa using c1
          have hs0 : ∀ e ∈ List.replicate len (zv.cells.toList.map ofCell), e.length = s := fun x hx => by rw [List.eq_of_mem_replicate hx]; simp [hzs]
          have hzero : All2 (RV w S h m nx) (madeCells zv.cells (len * s)).toList (List.replicate len (zv.cells.toList.map ofCell)).flatten :=
            ⟨by rw [flatten_len s _ hs0]; simp [size_madeCells], made_rv hzs c2 len len⟩
          obtain ⟨⟨co, h1, h2, hone⟩, h3, h4⟩ := fillE_sound s parts cps _ (madeCells zv.cells (len * s)) hp hs0 hzero (made_one (by omega) c7 _) es hf
          have hfl := flatten_len s es h4
          have hel : es.length = len := by simpa using h3
          obtain ⟨w', m', hw, ex, hr', hv⟩ := evRow_sound H (w1 := w) rfl rfl rfl rfl e s id nx' hn hid hid' es len co.toList (by rw [h2.1, hfl, hel]) (by omega)
            (by simp only [maxLen]; have := Nat.le_mul_of_pos_right len c2; omega) h4 hone h2.2
          refine ⟨rfl, .slice (some ⟨w.heap.size, 0, none⟩) len len, w', m', ?_, ex, hr', by simpa [hel] using hv⟩
          by_cases h0 : len * s = 0
          · have hm0 : madeCells zv.cells (len * s) = #[] := by rw [h0]; simp [madeCells, Array.range_zero']
            rw [hm0] at h1
            simp [Instr.buildSlice, run_underlying hu, run_size_info hinf hsz, h0, newRow, hw, h1, Array.range_zero']
          · have n1 : ¬ 16777216 < len * s := by omega
            simp only [madeCells, hzs] at h1
            have h1' : Instr.fill (fun i => some (i * s, s)) (Array.map (fun x => zv.cells[x % zv.cells.size]!) (Array.range (len * s))) cps = some co := by simpa [hzs] using h1
            simp [Instr.buildSlice, run_underlying hu, run_size_info hinf hsz, h0, n1, zeroValue, typeInfo, hinf, hzv, newRow, hw, h1']
      · cases he
    · cases he
  · cases he

/-! ### Slicing -/
def bnd (x : Option V) (dflt : Nat) : Option Nat :=
  match x with
  | none => some dflt
  | some (.d (.int _ n)) => if 0 ≤ n then some n.toNat else none
  | _ => none
/-- A bound as it stands, and what it comes to. -/
def BndRel (w : World) (S : Nat → Prop) (h : Hp) (m : Nat → Nat × Nat) (nx : Nat → Prop) : Option Value → Option V → Prop
  | none, none => True
  | some c, some x => RV w S h m nx c x
  | _, _ => False
theorem bnd_sound {c : Option Value} {x : Option V} (hr : BndRel w S h m nx c x) {dflt n : Nat} (he : bnd x dflt = some n) :
    (c = none ∧ n = dflt) ∨ ∃ k z, c = some (.int k z) ∧ 0 ≤ z ∧ z.toNat = n := by
  cases x with
  | none =>
    cases c with
    | none => simp [bnd] at he; exact .inl ⟨rfl, he.symm⟩
    | some c => cases hr
  | some x =>
    cases c with
    | none => cases hr
    | some c =>
      unfold bnd at he
      split at he
      · rename_i heq; cases heq
      · rename_i k z heq
        cases heq
        split at he
        · rename_i hz
          cases hr with
          | d _ _ hd => cases hd; simp at he; exact .inr ⟨k, z, rfl, hz, he⟩
        · cases he
      · cases he
theorem run_sliceBound {k : IntKind} {z : Int} {y n : Nat} {code : BoundsCode} (h0 : 0 ≤ z) (hn : z.toNat = n) (hy : n ≤ y) : (Instr.sliceBound (.int k z) y code).run P w = .ok n w := by
  have : 0 ≤ z ∧ z ≤ (y : Int) := ⟨h0, by omega⟩
  simp [Instr.sliceBound, asIntOf, this, hn]
theorem run_sliceBounds {isS : Bool} {len cap l r : Nat} {cl cr : Option Value} {lo hi : Option V} (h1 : BndRel w S h m nx cl lo) (h2 : BndRel w S h m nx cr hi) (hl : bnd lo 0 = some l) (hr : bnd hi len = some r) (hlr : l ≤ r) (hlen : r ≤ len) (hcap : len ≤ cap) :
    (Instr.sliceBounds isS len cap cl cr none).run P w = .ok (l, r, cap) w := by
  rcases bnd_sound h1 hl with ⟨rfl, rfl⟩ | ⟨k, z, rfl, hz, hn⟩ <;> rcases bnd_sound h2 hr with ⟨rfl, rfl⟩ | ⟨k', z', rfl, hz', hn'⟩
  · simp [Instr.sliceBounds]
  · simp [Instr.sliceBounds, run_sliceBound hz' hn' (show r ≤ cap by omega)]
  · simp [Instr.sliceBounds, run_sliceBound hz hn hlr]
  · simp [Instr.sliceBounds, run_sliceBound hz' hn' (show r ≤ cap by omega), run_sliceBound hz hn hlr]

def evSlice (P : Program) (h : Hp) (t : TypeId) (x : V) (lo hi : Option V) : Option (V × List Nat) :=
  match x with
  | .d (.str s) =>
    match P.underlying t, bnd lo 0, bnd hi s.size with
    | some .string, some l, some r => if l ≤ r ∧ r ≤ s.size then some (.d (.str (s.extract l r)), []) else none
    | _, _, _ => none
  | .d (.ls s es) =>
    match telem P t, bnd lo 0, bnd hi es.length with
    | some (_, s', _), some l, some r => if s' = s ∧ l ≤ r ∧ r ≤ es.length then some (.d (.ls s ((es.drop l).take (r - l))), []) else none
    | _, _, _ => none
  | .d .nils =>
    match telem P t, bnd lo 0, bnd hi 0 with
    | some _, some l, some r => if l ≤ r ∧ r ≤ 0 then some (.d .nils, []) else none
    | _, _, _ => none
  | .sl id ver off len =>
    match rdBlk h id ver, telem P t, bnd lo 0, bnd hi len with
    | some B, some (_, s', _), some l, some r => if s' = B.s ∧ l ≤ r ∧ r ≤ len then (if l = r then some (.d (.ls s' []), [id]) else some (.sl id ver (off + l) (r - l), [id])) else none
    | _, _, _, _ => none
  | _ => none

theorem sliceAt_slice {t e : TypeId} (hu : P.underlying t = some (.slice e)) (cx : Value) (cl cr : Option Value) : (Instr.sliceAt t cx cl cr none).run P w = (Instr.slice t cx cl cr none).run P w := by
  simp [Instr.sliceAt, run_underlying hu]

theorem evSlice_sound (H : HR w S h m nx) {t : TypeId} {cx : Value} {x : V} (hx : RV w S h m nx cx x) {cl cr : Option Value} {lo hi : Option V} (h1 : BndRel w S h m nx cl lo) (h2 : BndRel w S h m nx cr hi) {v : V} {rd : List Nat} (he : evSlice P h t x lo hi = some (v, rd)) :
    ∃ cv, (Instr.sliceAt t cx cl cr none).run P w = .ok cv w ∧ RV w S h m nx cv v := by
  unfold evSlice at he
  split at he
  · rename_i s
    have hcx : cx = .string s := by cases hx with | d _ _ hd => cases hd; rfl
    subst hcx
    split at he
    · rename_i l r hu hl hr
      split at he
      · rename_i hc
        simp only [Option.some.injEq, Prod.mk.injEq] at he
        obtain ⟨rfl, rfl⟩ := he
        refine ⟨.string (s.extract l r), ?_, .d _ _ (.str _)⟩
        simp [Instr.sliceAt, run_underlying hu, Instr.slice, run_sliceBounds (P := P) (isS := false) h1 h2 hl hr hc.1 hc.2 (Nat.le_refl _)]
      · cases he
    · cases he
  · rename_i s es
    split at he
    · rename_i q s' b l r hte hl hr
      obtain ⟨hu, inf, hinf, hsz, _⟩ := telem_some hte
      split at he
      · rename_i hc
        obtain ⟨rfl, hlr, hre⟩ := hc
        simp only [Option.some.injEq, Prod.mk.injEq] at he
        obtain ⟨rfl, rfl⟩ := he
        rw [sliceAt_slice hu]
        cases hx with
        | d _ _ hd =>
          cases hd with
          | ls0 _ a cap =>
            simp at hre
            have hl0 : l = 0 := by omega
            subst hre; subst hl0
            have hb := run_sliceBounds (P := P) (isS := true) (len := 0) (cap := cap) h1 h2 hl (by simpa using hr) (Nat.le_refl _) (Nat.le_refl _) (Nat.zero_le _)
            exact ⟨.slice (if cap = 0 then a else a.map (·.add (0 * s'))) 0 cap, by simp [Instr.slice, run_underlying hu, hb, run_size_info hinf hsz], .d _ _ (by simpa using RD.ls0 s' _ _)⟩
          | ls b off cap _ _ cells hS hcap hs hlc hcc hrr =>
            have hb := run_sliceBounds (P := P) (isS := true) (len := es.length) (cap := cap) h1 h2 hl hr hlr hre hcap
            have hrun : ∀ a', (if cap = l then some (⟨b, off, none⟩ : Addr) else (some (⟨b, off, none⟩ : Addr)).map (·.add (l * s'))) = a' → (Instr.slice t (.slice (some ⟨b, off, none⟩) es.length cap) cl cr none).run P w = .ok (.slice a' (r - l) (cap - l)) w := by
              intro a' ha
              subst ha
              simp [Instr.slice, run_underlying hu, hb, run_size_info hinf hsz]
            by_cases hcl : cap = l
            · have hrl : r - l = 0 := by omega
              refine ⟨_, hrun _ rfl, .d _ _ ?_⟩
              rw [hrl]
              simpa using RD.ls0 s' _ _
            · refine ⟨.slice (some ⟨b, off + l * s', none⟩) (r - l) (cap - l), hrun _ (by rw [if_neg hcl]; simp [addr_add]), .d _ _ ?_⟩
              have hfl := flatten_len s' es hs
              have hs2 : ∀ e ∈ (es.drop l).take (r - l), e.length = s' := fun e hmem => hs e (List.mem_of_mem_drop (List.mem_of_mem_take hmem))
              have hfl2 := flatten_len s' _ hs2
              have hlen2 : ((es.drop l).take (r - l)).length = r - l := by simp; omega
              have hmul : l * s' + (r - l) * s' ≤ es.length * s' := by rw [← Nat.add_mul]; exact Nat.mul_le_mul_right _ (by omega)
              have key := RD.ls (w := w) (S := S) b (off + l * s') (cap - l) s' ((es.drop l).take (r - l)) ((cells.drop (l * s')).take ((r - l) * s')) hS (by omega) hs2
                (by rw [hfl2, hlen2]; simp; omega)
                (fun j hj => by
                  simp at hj
                  have := hcc (l * s' + j) (by omega)
                  rw [Nat.add_assoc, this]
                  simp)
                (fun j hj hj' => by
                  simp at hj
                  have hmod : j % s' < s' := by
                    rcases Nat.eq_zero_or_pos s' with h0 | h0
                    · subst h0; simp at hj
                    · exact Nat.mod_lt _ h0
                  have hdm : j = j / s' * s' + j % s' := by have := Nat.div_add_mod j s'; rw [Nat.mul_comm] at this; omega
                  have f1 := flatten_at s' es hs (l + j / s') (j % s') hmod
                  have f2 := flatten_at s' _ hs2 (j / s') (j % s') hmod
                  have hdl : j / s' < r - l := by
                    rcases Nat.eq_zero_or_pos s' with h0 | h0
                    · subst h0; simp at hj
                    · exact (Nat.div_lt_iff_lt_mul h0).2 (by omega)
                  rw [List.getElem?_take_of_lt hdl, List.getElem?_drop] at f2
                  rw [← f1] at f2
                  rw [← hdm, List.getElem?_eq_getElem hj'] at f2
                  have e3 : (l + j / s') * s' + j % s' = l * s' + j := by rw [Nat.add_mul]; omega
                  rw [e3, List.getElem?_eq_getElem (by omega)] at f2
                  have := hrr (l * s' + j) (by omega) (by omega)
                  rw [← Option.some.inj f2] at this
                  simpa using this)
              rw [hlen2] at key
              exact key
      · cases he
    · cases he
  · split at he
    · rename_i p l r hte hl hr
      obtain ⟨e, s', b⟩ := p
      obtain ⟨hu, inf, hinf, hsz, _⟩ := telem_some hte
      split at he
      · rename_i hc
        simp only [Option.some.injEq, Prod.mk.injEq] at he
        obtain ⟨rfl, rfl⟩ := he
        have hcx : cx = .slice none 0 0 := by cases hx with | d _ _ hd => cases hd; rfl
        subst hcx
        have hr0 : r = 0 := by omega
        have hl0 : l = 0 := by omega
        subst hr0; subst hl0
        rw [sliceAt_slice hu]
        have hb := run_sliceBounds (P := P) (isS := true) (len := 0) (cap := 0) h1 h2 hl hr (Nat.le_refl _) (Nat.le_refl _) (Nat.le_refl _)
        exact ⟨.slice none 0 0, by simp [Instr.slice, run_underlying hu, hb, run_size_info hinf hsz], .d _ _ .nils⟩
      · cases he
    · cases he
  · rename_i id ver off len
    split at he
    · rename_i B q s' b l r hB hte hl hr
      obtain ⟨hB, hver'⟩ := rdBlk_some hB
      obtain ⟨hu, inf, hinf, hsz, _⟩ := telem_some hte
      split at he
      · rename_i hc
        obtain ⟨hs', hlr, hre⟩ := hc
        rw [sliceAt_slice hu]
        cases hx with
        | sl _ _ _ _ _ hlt hver hv =>
          obtain ⟨hle, rfl⟩ := hv B hB hver'
          obtain ⟨C, hC, hCl, hcap, hmax, hs, _, hrr⟩ := H.blk id B hB
          have hb := run_sliceBounds (P := P) (isS := true) (len := len) (cap := (m id).2 - off) h1 h2 hl hr hlr hre (by omega)
          have hrun : ∀ a', (if (m id).2 - off = l then some (⟨(m id).1, off * B.s, none⟩ : Addr) else (some (⟨(m id).1, off * B.s, none⟩ : Addr)).map (·.add (l * s'))) = a' → (Instr.slice t (.slice (some ⟨(m id).1, off * B.s, none⟩) len ((m id).2 - off)) cl cr none).run P w = .ok (.slice a' (r - l) ((m id).2 - off - l)) w := by
            intro a' ha
            subst ha
            simp [Instr.slice, run_underlying hu, hb, run_size_info hinf hsz]
          split at he
          · rename_i hlr'
            simp only [Option.some.injEq, Prod.mk.injEq] at he
            obtain ⟨rfl, rfl⟩ := he
            refine ⟨_, hrun _ rfl, .d _ _ ?_⟩
            have : r - l = 0 := by omega
            rw [this]
            exact .ls0 s' _ _
          · rename_i hlr'
            simp only [Option.some.injEq, Prod.mk.injEq] at he
            obtain ⟨rfl, rfl⟩ := he
            have hne : ¬ ((m id).2 - off = l) := by omega
            refine ⟨.slice (some ⟨(m id).1, (off + l) * B.s, none⟩) (r - l) ((m id).2 - (off + l)), ?_, .sl _ id ver (off + l) (r - l) hlt hver fun B' hB' _ => ?_⟩
            · rw [hrun _ rfl, if_neg hne]
              simp [addr_add, Nat.add_mul, hs']
              omega
            · rw [hB] at hB'; cases hB'
              exact ⟨by omega, rfl⟩
      · cases he
    · cases he
  · cases he

end
end Go.Proofs.YtepahgbgijmipaaEv
