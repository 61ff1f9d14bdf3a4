/- A logic over abstract states for walks, fifth part: new memory, slicing, conversions, structs. -/
import Derived.Test.YtepahgbgijmipaaEv4
import Derived.Laws.StructEq
import Derived.Laws.BytesString
namespace Go.Proofs.YtepahgbgijmipaaEv
open Go Go.RowKit

theorem All2.take {α β : Type} {R : α → β → Prop} {l : List α} {m : List β} (h : All2 R l m) (n : Nat) : All2 R (l.take n) (m.take n) := by
  refine ⟨by simp [h.1], fun j h1 h2 => ?_⟩
  simp at h1 h2
  simpa using h.2 j (by omega) (by omega)
theorem All2.drop {α β : Type} {R : α → β → Prop} {l : List α} {m : List β} (h : All2 R l m) (n : Nat) : All2 R (l.drop n) (m.drop n) := by
  refine ⟨by simp [h.1], fun j h1 h2 => ?_⟩
  simp at h1 h2
  simpa using h.2 (n + j) (by omega) (by omega)
theorem All2.append {α β : Type} {R : α → β → Prop} {l l' : List α} {m m' : List β} (h : All2 R l m) (h' : All2 R l' m') : All2 R (l ++ l') (m ++ m') := by
  refine ⟨by simp [h.1, h'.1], fun j h1 h2 => ?_⟩
  have hl := h.1
  by_cases hj : j < l.length
  · rw [List.getElem_append_left hj, List.getElem_append_left (by omega)]
    exact h.2 j hj (by omega)
  · rw [List.getElem_append_right (by omega), List.getElem_append_right (by omega)]
    have := h'.2 (j - l.length) (by simp at h1; omega) (by simp at h2; omega)
    simpa [hl] using this
theorem All2.nil {α β : Type} {R : α → β → Prop} : All2 R ([] : List α) ([] : List β) := ⟨rfl, fun j h _ => by simp at h⟩
theorem All2.mono {α β : Type} {R R' : α → β → Prop} {l : List α} {m : List β} (h : All2 R l m) (hR : ∀ a b, R a b → R' a b) : All2 R' l m :=
  ⟨h.1, fun j h1 h2 => hR _ _ (h.2 j h1 h2)⟩

theorem fold_set : ∀ (vs : List Value) (k off : Nat) (cells : Array Value), off + k + vs.length ≤ cells.size →
    ((vs.zipIdx k).foldl (fun (cs : Array Value) (p : Value × Nat) => cs.setIfInBounds (off + p.2) p.1) cells).toList = cells.toList.take (off + k) ++ vs ++ cells.toList.drop (off + k + vs.length)
  | [], k, off, cells, _ => by simp
  | v :: vs, k, off, cells, hk => by
    simp only [List.length_cons] at hk
    rw [List.zipIdx_cons, List.foldl_cons, fold_set vs (k + 1) off _ (by simp; omega)]
    have e1 : (cells.setIfInBounds (off + k) v).toList = cells.toList.set (off + k) v := by simp
    rw [e1]
    have hs := list_seg_step cells.toList (off + k) v vs (by simp; omega)
    have e2 : off + (k + 1) = off + k + 1 := by omega
    rw [e2, hs, List.length_cons]

section
variable {P : Program} {w : World} {S : Nat → Prop} {h : Hp} {m : Nat → Nat × Nat} {nx : Nat → Prop}

theorem fill_step (place : Nat → Option (Nat × Nat)) (cells : Array Value) (i : Nat) (v : Value) (rest : List (Nat × Value)) (off size : Nat) (hp : place i = some (off, size)) (hv : v.cells.size = size) (ho : off + size ≤ cells.size) :
    Instr.fill place cells ((i, v) :: rest) = Instr.fill place (cells.toList.take off ++ v.cells.toList ++ cells.toList.drop (off + size)).toArray rest := by
  have hf := fold_set v.cells.toList 0 off cells (by simp; omega)
  have e : v.cells.zipIdx.foldl (fun (cs : Array Value) (p : Value × Nat) => cs.setIfInBounds (off + p.2) p.1) cells = (cells.toList.take off ++ v.cells.toList ++ cells.toList.drop (off + size)).toArray := by
    apply Array.ext'
    rw [← Array.foldl_toList, Array.toList_zipIdx]
    simp only [Nat.add_zero, Array.length_toList, hv] at hf
    simpa using hf
  simp only [Instr.fill, hp, hv]
  rw [if_neg (by simp; omega)]
  exact congrArg (fun x => Instr.fill place x rest) e

/-- The parts of a struct or array literal, laid over its zero. -/
def fillV (h : Hp) (place : Nat → Option (Nat × Nat)) : List V → List (Nat × V) → Option (List V)
  | cells, [] => some cells
  | cells, (i, v) :: rest =>
    match place i, cellsV h v with
    | some (off, size), some cs => if cs.length = size ∧ off + size ≤ cells.length then fillV h place (cells.take off ++ cs ++ cells.drop (off + size)) rest else none
    | _, _ => none
theorem fillV_sound (place : Nat → Option (Nat × Nat)) : ∀ (ps : List (Nat × V)) (cps : List (Nat × Value)) (cells : List V) (cc : Array Value), All2 (fun a b => a.1 = b.1 ∧ RV w S h m nx a.2 b.2) cps ps →
    All2 (RV w S h m nx) cc.toList cells → ∀ out, fillV h place cells ps = some out → ∃ co, Instr.fill place cc cps = some co ∧ All2 (RV w S h m nx) co.toList out
  | [], cps, cells, cc, hp, hc, out, he => by
    have : cps = [] := List.eq_nil_of_length_eq_zero hp.1
    subst this
    simp only [fillV, Option.some.injEq] at he
    subst he
    exact ⟨cc, rfl, hc⟩
  | (i, v) :: ps, [], cells, cc, hp, hc, out, he => by simp [All2] at hp
  | (i, v) :: ps, (i', cv) :: cps, cells, cc, hp, hc, out, he => by
    have h0 := hp.2 0 (by simp) (by simp)
    simp at h0
    obtain ⟨rfl, hv⟩ := h0
    have hp' : All2 (fun a b => a.1 = b.1 ∧ RV w S h m nx a.2 b.2) cps ps := by simpa using hp.drop 1
    simp only [fillV] at he
    split at he
    · rename_i off size cs hpl hcs
      split at he
      · rename_i hcond
        obtain ⟨h1, h2, h3⟩ := cellsV_rv hv hcs
        have hsz : cv.cells.size = size := by have := h1; simp at this; omega
        have hcl := hc.1
        simp at hcl
        rw [fill_step place cc i' cv cps off size hpl hsz (by omega)]
        refine fillV_sound place ps cps _ _ hp' ?_ out he
        simp only [List.append_assoc]
        exact (hc.take off).append (All2.append ⟨h1, h2⟩ (hc.drop (off + size)))
      · cases he
    · cases he

/-- Where the fields of a struct lie. -/
def tplaces (P : Program) (t : TypeId) : Option (List (Nat × Nat)) :=
  match P.underlying t with
  | some (.struct fs) => fs.toList.mapM fun f => match P.info? f.type with
    | some i => some (f.offset, i.size)
    | none => none
  | _ => none

theorem run_mapM (P : Program) (w : World) (g : Field → Sem (Nat × Nat)) (hg : ∀ f i, P.info? f.type = some i → (g f).run P w = .ok (f.offset, i.size) w) : ∀ (fs : List Field) (ps : List (Nat × Nat)),
    (fs.mapM fun f => match P.info? f.type with | some i => some (f.offset, i.size) | none => none) = some ps → (fs.mapM g).run P w = .ok ps w
  | [], ps, h => by simp at h; subst h; simp
  | f :: fs, ps, h => by
    rw [List.mapM_cons] at h ⊢
    cases hi : P.info? f.type with
    | none => simp [hi] at h
    | some i =>
      simp only [hi, Option.pure_def, Option.bind_eq_bind, Option.bind_some] at h
      cases hr : (fs.mapM fun f => match P.info? f.type with | some i => some (f.offset, i.size) | none => none) with
      | none => simp [hr] at h
      | some r =>
        simp [hr] at h
        subst h
        have ih := run_mapM P w g hg fs r hr
        simp only [Sem.run_bind, hg f i hi, Result.andThen_ok, ih, Sem.run_pure]

def evBuild (P : Program) (h : Hp) (t : TypeId) (parts : List (Nat × V)) : Option V :=
  match tzero P t with
  | some z =>
    match tplaces P t, tarr P t with
    | some ps, _ => (fillV h (fun i => ps[i]?) (z.map ofCell) parts).map .agg
    | none, some (_, s, _) => (fillV h (fun i => some (i * s, s)) (z.map ofCell) parts).map .agg
    | none, none => none
  | none => none

theorem tzero_some {t : TypeId} {z : List Value} (ht : tzero P t = some z) : ∃ i zv, P.info? t = some i ∧ i.zero = some zv ∧ zv.cells.toList = z := by
  unfold tzero at ht
  split at ht
  · rename_i i hi
    cases hz : i.zero with
    | none => simp [hz] at ht
    | some zv => simp [hz] at ht; exact ⟨i, zv, hi, hz, ht⟩
  · cases ht

theorem zero_rv (z : List Value) : All2 (RV w S h m nx) z (z.map ofCell) := ⟨by simp, fun j h1 h2 => by simpa using ofCell_rv _⟩

theorem evBuild_sound {t : TypeId} {parts : List (Nat × V)} {cps : List (Nat × Value)} (hp : All2 (fun a b => a.1 = b.1 ∧ RV w S h m nx a.2 b.2) cps parts) {v : V} (he : evBuild P h t parts = some v) :
    ∃ cv, (Instr.build t cps.toArray).run P w = .ok cv w ∧ RV w S h m nx cv v := by
  unfold evBuild at he
  split at he
  · rename_i z hz
    obtain ⟨i, zv, hi, hzv, rfl⟩ := tzero_some hz
    split at he
    · rename_i ps hps
      cases hf : fillV h (fun i => ps[i]?) (zv.cells.toList.map ofCell) parts with
      | none => simp [hf] at he
      | some out =>
        simp [hf] at he
        subst he
        obtain ⟨co, h1, h2⟩ := fillV_sound (fun i => ps[i]?) parts cps _ zv.cells hp (zero_rv _) out hf
        unfold tplaces at hps
        split at hps
        · rename_i fs hu
          have hm := run_mapM P w (fun f => (do pure (f.offset, ← sizeOf f.type) : Sem (Nat × Nat))) (fun f i hi => by simp [sizeOf, typeInfo, hi]) fs.toList ps hps
          have hm' : (fs.mapM fun f => (do pure (f.offset, ← sizeOf f.type) : Sem (Nat × Nat))).run P w = .ok ps.toArray w := by
            rw [Array.mapM_eq_mapM_toList]
            simp only [Sem.run_map, hm, Result.andThen_ok]
          have hfe : (fun (x : Nat) => (ps.toArray[x]? : Option (Nat × Nat))) = fun i => ps[i]? := by funext x; simp
          refine ⟨.agg co, ?_, ?_⟩
          · simp only [Instr.build, Sem.run_bind, zeroValue, typeInfo, run_program, hi, hzv, Result.andThen_ok, Sem.run_pure, run_underlying hu, hm', hfe]
            simp [h1]
          · have := RV.agg (w := w) (S := S) (h := h) (m := m) (nx := nx) co.toList out h2.1 h2.2
            simpa using this
        · cases hps
    · rename_i len s a hps harr
      obtain ⟨e, hu, hsz⟩ := tarr_some harr
      cases hf : fillV h (fun i => some (i * s, s)) (zv.cells.toList.map ofCell) parts with
      | none => simp [hf] at he
      | some out =>
        simp [hf] at he
        subst he
        obtain ⟨co, h1, h2⟩ := fillV_sound (fun i => some (i * s, s)) parts cps _ zv.cells hp (zero_rv _) out hf
        refine ⟨.agg co, ?_, ?_⟩
        · simp [Instr.build, zeroValue, typeInfo, hi, hzv, run_underlying hu, run_sizeOf hsz, h1]
        · have := RV.agg (w := w) (S := S) (h := h) (m := m) (nx := nx) co.toList out h2.1 h2.2
          simpa using this
    · cases he
  · cases he

/-- A new variable. -/
def evBox (t : TypeId) (id : Nat) (cs : List V) : V × List (Nat × Blk) := (.ptr id 0 0 0, [(id, ⟨t, cs.length, 0, [cs]⟩)])
theorem evBox_sound (H : HR w S h m nx) (t : TypeId) (id : Nat) (nx' : Nat → Prop) (hn : ∀ i, nx i → nx' i) (hid : ¬ nx id) (hid' : nx' id) {cells : Array Value} {cs : List V} (hc : All2 (RV w S h m nx) cells.toList cs) (hone : ∀ u ∈ cells.toList, u.oneCell' = true) :
    ∃ w' m', (newRow t cells).run P w = .ok ⟨w.heap.size, 0, none⟩ w' ∧ Ext w S h m nx w' S (h.upd id ⟨t, cs.length, 0, [cs]⟩) m' nx' ∧ HR w' S (h.upd id ⟨t, cs.length, 0, [cs]⟩) m' nx' ∧
      RV w' S (h.upd id ⟨t, cs.length, 0, [cs]⟩) m' nx' (.pointer (some ⟨w.heap.size, 0, none⟩)) (.ptr id 0 0 0) := by
  have ha := H.alloc (w1 := w) rfl rfl rfl rfl id hn hid' ⟨t, cs.length, 0, [cs]⟩ (.inl hid) 1 cells.toList (by have := hc.1; simp at this ⊢; omega) (by simp) (by simp [maxLen]) (by simp) hone (fun j h1 h2 => by
    have := hc.2 j h1 (by simpa using h2)
    simpa using this)
  refine ⟨_, _, ?_, ha.1, ha.2, ?_⟩
  · simp [newRow]
  · refine .ptr _ id 0 0 0 hid' (fun B hB => by simp) (fun B hB _ => ?_)
    simp only [Hp.upd, if_true, Option.some.injEq] at hB
    subst hB
    simp

/-- A new row of elements of which the first ones are known. -/
theorem evRow_sound (H : HR w S h m nx) {w1 : World} (hheap : w1.heap = w.heap) (hos : w1.os = w.os) (htape : w1.tape = w.tape) (hout : w1.output = w.output) (e : TypeId) (s : Nat) (id : Nat) (nx' : Nat → Prop) (hn : ∀ i, nx i → nx' i) (hid : ¬ nx id) (hid' : nx' id) (es : List (List V)) (cap : Nat) (C : List Value)
    (hC : C.length = cap * s) (hcap : es.length ≤ cap) (hmax : cap ≤ maxLen) (hs : ∀ e ∈ es, e.length = s) (hone : ∀ u ∈ C, u.oneCell' = true)
    (hr : ∀ (j : Nat) (h1 : j < C.length) (h2 : j < es.flatten.length), RV w S h m nx C[j] es.flatten[j]) :
    ∃ w' m', w' = w1.alloc (.cells C.toArray e) ∧ Ext w S h m nx w' S (h.upd id ⟨e, s, 0, es⟩) m' nx' ∧ HR w' S (h.upd id ⟨e, s, 0, es⟩) m' nx' ∧
      RV w' S (h.upd id ⟨e, s, 0, es⟩) m' nx' (.slice (some ⟨w.heap.size, 0, none⟩) es.length cap) (.sl id 0 0 es.length) := by
  have ha := H.alloc hheap hos htape hout id hn hid' ⟨e, s, 0, es⟩ (.inl hid) cap C hC hcap hmax hs hone hr
  refine ⟨_, _, rfl, ha.1, ha.2, ?_⟩
  refine .sl _ id 0 0 es.length hid' (fun B hB => by simp) (fun B hB _ => ?_)
  simp only [Hp.upd, if_true, Option.some.injEq] at hB
  subst hB
  simp

theorem flatten_replicate_at (z : List V) (s : Nat) (hz : z.length = s) (hs : 0 < s) : ∀ (n j : Nat), j < n * s → (List.replicate n z).flatten[j]? = z[j % s]?
  | 0, j, hj => by simp at hj
  | n + 1, j, hj => by
    rw [List.replicate_succ, List.flatten_cons]
    by_cases h1 : j < s
    · rw [List.getElem?_append_left (by omega), Nat.mod_eq_of_lt h1]
    · rw [List.getElem?_append_right (by omega), hz, flatten_replicate_at z s hz hs n (j - s) (by rw [Nat.add_mul] at hj; omega)]
      congr 1
      have : j % s = (j - s) % s := by
        conv => lhs; rw [show j = (j - s) + s from by omega]
        simp
      omega

theorem made_rv {z : Array Value} {s : Nat} (hz : z.size = s) (hs : 0 < s) (c n : Nat) : ∀ (j : Nat) (h1 : j < (madeCells z (c * s)).toList.length) (h2 : j < (List.replicate n (z.toList.map ofCell)).flatten.length),
    RV w S h m nx (madeCells z (c * s)).toList[j] (List.replicate n (z.toList.map ofCell)).flatten[j] := by
  intro j h1 h2
  have hl : (List.replicate n (z.toList.map ofCell)).flatten.length = n * s := by
    rw [flatten_len s _ (fun e he => by rw [List.eq_of_mem_replicate he]; simp [hz])]
    simp
  have hfl := flatten_replicate_at (z.toList.map ofCell) s (by simp [hz]) hs n j (by omega)
  rw [List.getElem?_eq_getElem h2] at hfl
  have hm : j % s < z.size := by rw [hz]; exact Nat.mod_lt _ hs
  have e1 : (madeCells z (c * s)).toList[j] = z[j % s] := by
    simp [madeCells, hz]
    rw [getElem!_pos z (j % s) hm]
  rw [e1]
  rw [List.getElem?_map, List.getElem?_eq_getElem (by simpa using hm), Option.map_some] at hfl
  rw [Option.some.inj hfl]
  simpa using ofCell_rv _

theorem made_one {z : Array Value} (hz : 0 < z.size) (ho : z.toList.all (·.oneCell') = true) (n : Nat) : ∀ u ∈ (madeCells z n).toList, u.oneCell' = true := by
  intro u hu
  simp only [madeCells, Array.toList_map, List.mem_map] at hu
  obtain ⟨j, _, rfl⟩ := hu
  have hm : j % z.size < z.size := Nat.mod_lt _ hz
  rw [getElem!_pos z (j % z.size) hm]
  rw [List.all_eq_true] at ho
  exact ho _ (by simp)

def evMake (P : Program) (id : Nat) (t : TypeId) (len cap : V) : Option (V × List (Nat × Blk)) :=
  match len, cap, telem P t with
  | .d (.int _ l), .d (.int _ c), some (e, s, b) =>
    match tzero P e with
    | some z => if 0 ≤ l ∧ l ≤ c ∧ (b : Int) * c ≤ 281474976710656 ∧ c ≤ 9223372036854775807 ∧ z.length = s ∧ 0 < s ∧ z.all (·.oneCell') = true then
        some (.sl id 0 0 l.toNat, [(id, ⟨e, s, 0, List.replicate l.toNat (z.map ofCell)⟩)]) else none
    | none => none
  | _, _, _ => none
theorem evMake_sound (H : HR w S h m nx) (id : Nat) (nx' : Nat → Prop) (hn : ∀ i, nx i → nx' i) (hid : ¬ nx id) (hid' : nx' id) {t : TypeId} {cl cc : Value} {len cap : V} (h1 : RV w S h m nx cl len) (h2 : RV w S h m nx cc cap) {v : V} {i : Nat} {B : Blk} (he : evMake P id t len cap = some (v, [(i, B)])) :
    i = id ∧ ∃ cv w' m', (Instr.makeSlice t cl cc).run P w = .ok cv w' ∧ Ext w S h m nx w' S (h.upd id B) m' nx' ∧ HR w' S (h.upd id B) m' nx' ∧ RV w' S (h.upd id B) m' nx' cv v := by
  unfold evMake at he
  split at he
  · rename_i k l k' c e s b hte
    obtain ⟨hu, inf, hinf, hsz, hby⟩ := telem_some hte
    have e1 : cl = .int k l := by cases h1 with | d _ _ hd => cases hd; rfl
    have e2 : cc = .int k' c := by cases h2 with | d _ _ hd => cases hd; rfl
    subst e1; subst e2
    split at he
    · rename_i z hz
      obtain ⟨inf', zv, hinf', hzv, rfl⟩ := tzero_some hz
      rw [hinf] at hinf'; cases hinf'
      split at he
      · rename_i hc
        obtain ⟨c1, c2, c3, c4, c5, c6, c7⟩ := hc
        simp only [Option.some.injEq, Prod.mk.injEq, List.cons.injEq, and_true] at he
        obtain ⟨rfl, rfl, rfl⟩ := he
        subst hsz; subst hby
        have hr := run_make (P := P) w t e inf zv hu hinf hzv k k' l c c1 c2 c3 c4
        have hzs : zv.cells.size = inf.size := by simpa using c5
        obtain ⟨w', m', hw, ex, hr', hv⟩ := evRow_sound H (w1 := w) rfl rfl rfl rfl e inf.size id nx' hn hid hid' (List.replicate l.toNat (zv.cells.toList.map ofCell)) c.toNat (madeCells zv.cells (c.toNat * inf.size)).toList
          (by simp [size_madeCells]) (by simp; omega) (by simp only [maxLen]; omega) (fun x hx => by rw [List.eq_of_mem_replicate hx]; simp [hzs]) (made_one (by omega) c7 _) (made_rv hzs c6 c.toNat l.toNat)
        refine ⟨rfl, .slice (some ⟨w.heap.size, 0, none⟩) l.toNat c.toNat, w', m', ?_, ex, hr', ?_⟩
        · rw [hr, hw]
        · simpa using hv
      · cases he
    · cases he
  · cases he

end
end Go.Proofs.YtepahgbgijmipaaEv
