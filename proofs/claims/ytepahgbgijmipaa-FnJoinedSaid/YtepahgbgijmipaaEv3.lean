/- A logic over abstract states for walks, third part: operations on memory. -/
import Derived.Test.YtepahgbgijmipaaEv2
namespace Go.Proofs.YtepahgbgijmipaaEv
open Go Go.RowKit

def isAggD : TypeDesc → Bool
  | .struct _ | .array _ _ => true
  | _ => false
/-- A type's cells, and whether it is a struct or an array. -/
def tsz (P : Program) (t : TypeId) : Option (Nat × Bool) :=
  match P.info? t, P.underlying t with
  | some i, some d => some (i.size, isAggD d)
  | _, _ => none
/-- A field: where it begins, its cells, and whether it is a struct or an array. -/
def tfield (P : Program) (t : TypeId) (f : Nat) : Option (Nat × Nat × Bool) :=
  match P.underlying t with
  | some (.struct fs) => match fs[f]? with
    | some fl => match tsz P fl.type with
      | some (n, a) => if n = 0 then none else some (fl.offset, n, a)
      | none => none
    | none => none
  | _ => none
/-- A slice type's element: type, cells, bytes. -/
def telem (P : Program) (t : TypeId) : Option (TypeId × Nat × Nat) :=
  match P.underlying t with
  | some (.slice e) => match P.info? e with
    | some i => some (e, i.size, i.bytes)
    | none => none
  | _ => none
def tarr (P : Program) (t : TypeId) : Option (Nat × Nat × Bool) :=
  match P.underlying t with
  | some (.array n e) => match tsz P e with
    | some (s, a) => some (n, s, a)
    | none => none
  | _ => none
/-- A type's zero, cell by cell. -/
def tzero (P : Program) (t : TypeId) : Option (List Value) :=
  match P.info? t with
  | some i => i.zero.map (·.cells.toList)
  | none => none

section
variable {P : Program} {w : World} {S : Nat → Prop} {h : Hp} {m : Nat → Nat × Nat} {nx : Nat → Prop}

theorem run_sizeOf {t : TypeId} {n : Nat} {a : Bool} (ht : tsz P t = some (n, a)) : (sizeOf t).run P w = .ok n w := by
  unfold tsz at ht
  split at ht
  · rename_i i d hi hd
    simp at ht
    simp [sizeOf, typeInfo, hi, ht.1]
  · cases ht

theorem run_isAgg {t : TypeId} {n : Nat} {a : Bool} (ht : tsz P t = some (n, a)) : (isAgg t).run P w = .ok a w := by
  unfold tsz at ht
  split at ht
  · rename_i i d hi hd
    simp at ht
    have hu := run_underlying (P := P) (w := w) hd
    obtain ⟨_, rfl⟩ := ht
    simp only [isAgg, Sem.run_bind, hu, Result.andThen_ok]
    cases d <;> rfl
  · cases ht

theorem addr_add (b off n : Nat) : (⟨b, off, none⟩ : Addr).add n = ⟨b, off + n, none⟩ := by
  unfold Addr.add; split <;> simp_all

/-- A variable that lies in a run of cells. -/
theorem run_loadVar {t : TypeId} {n : Nat} {ag : Bool} (ht : tsz P t = some (n, ag)) (b off : Nat) (cells : List Value)
    (hc : ∀ (j : Nat) (h : j < cells.length), w.cell? ⟨b, off + j, none⟩ = some cells[j]) :
    (ag = true → n ≤ cells.length → (loadVar t ⟨b, off, none⟩).run P w = .ok (.agg (cells.take n).toArray) w) ∧
    (ag = false → (hl : 0 < cells.length) → (loadVar t ⟨b, off, none⟩).run P w = .ok cells[0] w) := by
  constructor
  · intro ha hn
    have hl : (loadCells ⟨b, off, none⟩ (cells.take n).length).run P w = .ok (cells.take n).toArray w :=
      run_loadCells_list w ⟨b, off, none⟩ (cells.take n) (fun j v hv => by
        rw [addr_add]
        have hlt := (List.getElem?_eq_some_iff.1 hv).1
        have hlt' : j < cells.length := by simp at hlt; omega
        rw [hc j hlt']
        have h2 := (List.getElem?_eq_some_iff.1 hv).2
        simp at h2
        rw [h2])
    have hlen : (cells.take n).length = n := by simp; omega
    rw [hlen] at hl
    simp [loadVar, run_isAgg ht, ha, run_sizeOf ht, hl]
  · intro ha hl
    have h0 := hc 0 hl
    simp only [Nat.add_zero] at h0
    simp [loadVar, run_isAgg ht, ha, run_load, h0]

def rdBlk (h : Hp) (id ver : Nat) : Option Blk :=
  match h id with
  | some B => if B.ver = ver then some B else none
  | none => none
theorem rdBlk_some {id ver : Nat} {B : Blk} (hB : rdBlk h id ver = some B) : h id = some B ∧ B.ver = ver := by
  unfold rdBlk at hB
  split at hB
  · rename_i B' hB'
    split at hB
    · cases hB; exact ⟨hB', by assumption⟩
    · cases hB
  · cases hB

/-- The cells of an element of a block. -/
theorem HR.elem (H : HR w S h m nx) {id : Nat} {B : Blk} (hB : h id = some B) {i : Nat} {e : List V} (he : B.es[i]? = some e) :
    ∃ cells : List Value, cells.length = e.length ∧ (∀ (j : Nat) (h : j < cells.length), w.cell? ⟨(m id).1, i * B.s + j, none⟩ = some cells[j]) ∧
      (∀ (j : Nat) (h1 : j < cells.length) (h2 : j < e.length), RV w S h m nx cells[j] e[j]) := by
  obtain ⟨C, hC, hCl, hcap, _, hs, _, hr⟩ := H.blk id B hB
  have hi := (List.getElem?_eq_some_iff.1 he).1
  have hes : e.length = B.s := hs e (List.mem_of_getElem? he)
  have hfl := flatten_len B.s B.es hs
  have hbound : i * B.s + B.s ≤ B.es.flatten.length := by
    rw [hfl]
    have := Nat.mul_le_mul_right B.s (show i + 1 ≤ B.es.length from hi)
    rw [Nat.add_mul] at this; omega
  have hbC : B.es.flatten.length ≤ C.length := by rw [hfl, hCl]; exact Nat.mul_le_mul_right _ hcap
  refine ⟨(C.drop (i * B.s)).take B.s, by simp; omega, fun j hj => ?_, fun j h1 h2 => ?_⟩
  · have hj' : j < B.s := by simp at hj; omega
    rw [cell_of_row w _ _ _ _ _ hC]
    simp only [List.getElem?_toArray, List.getElem_take, List.getElem_drop]
    exact List.getElem?_eq_getElem (by omega)
  · have hj' : j < B.s := by omega
    have hfa := flatten_at B.s B.es hs i j hj'
    rw [he, Option.bind_some, List.getElem?_eq_getElem h2, List.getElem?_eq_getElem (by omega)] at hfa
    have h3 := hr (i * B.s + j) (by omega) (by omega)
    rw [Option.some.inj hfa] at h3
    simpa using h3

def evLoad (P : Program) (h : Hp) (t : TypeId) (x : V) : Option (V × List Nat) :=
  match tsz P t with
  | some (n, ag) =>
    match x with
    | .ptr id ver i o =>
      match rdBlk h id ver with
      | some B => match B.es[i]? with
        | some e => if ag then (if o + n ≤ e.length then some (.agg ((e.drop o).take n), [id]) else none) else (e[o]?).map fun v => (v, [id])
        | none => none
      | none => none
    | .ip cs o => if ag then (if o + n ≤ cs.length then some (.agg (((cs.drop o).take n).map .d), []) else none) else (cs[o]?).map fun v => (.d v, [])
    | _ => none
  | none => none

theorem evLoad_sound (H : HR w S h m nx) {t : TypeId} {cx : Value} {x : V} (hx : RV w S h m nx cx x) {v : V} {rd : List Nat} (he : evLoad P h t x = some (v, rd)) :
    ∃ cv, (Instr.loadAt t cx).run P w = .ok cv w ∧ RV w S h m nx cv v := by
  unfold evLoad at he
  split at he
  · rename_i n ag ht
    have go : ∀ (b off : Nat) (cells : List Value) (e : List V) (o : Nat), cells.length = e.length → (∀ (j : Nat) (h : j < cells.length), w.cell? ⟨b, off + j, none⟩ = some cells[j]) →
        (∀ (j : Nat) (h1 : j < cells.length) (h2 : j < e.length), RV w S h m nx cells[j] e[j]) →
        (ag = true → o + n ≤ e.length → v = .agg ((e.drop o).take n) → ∃ cv, (loadVar t ⟨b, off + o, none⟩).run P w = .ok cv w ∧ RV w S h m nx cv v) ∧
        (ag = false → e[o]? = some v → ∃ cv, (loadVar t ⟨b, off + o, none⟩).run P w = .ok cv w ∧ RV w S h m nx cv v) := by
      intro b off cells e o hl hc hr
      have hd := run_loadVar (P := P) (w := w) ht b (off + o) (cells.drop o) (fun j hj => by
        simp at hj
        have := hc (o + j) (by omega)
        rw [List.getElem_drop]
        rw [← this, Nat.add_assoc])
      refine ⟨fun ha hn hv => ?_, fun ha hv => ?_⟩
      · subst hv
        refine ⟨_, hd.1 ha (by simp; omega), .agg _ _ (by simp; omega) (fun j h1 h2 => ?_)⟩
        simp at h1 h2
        have := hr (o + j) (by omega) (by omega)
        simpa using this
      · have hlt := (List.getElem?_eq_some_iff.1 hv).1
        have h0 : 0 < (cells.drop o).length := by simp; omega
        refine ⟨_, hd.2 ha h0, ?_⟩
        have := hr o (by omega) hlt
        rw [(List.getElem?_eq_some_iff.1 hv).2] at this
        simpa using this
    cases hx with
    | ptr cv id ver i o hlt hver hv =>
      simp only at he
      split at he
      · rename_i B hB
        obtain ⟨hB, hver'⟩ := rdBlk_some hB
        split at he
        · rename_i e hes
          obtain ⟨cells, hl, hc, hr⟩ := H.elem hB hes
          obtain ⟨_, rfl⟩ := hv B hB hver'
          have hg := go (m id).1 (i * B.s) cells e o hl hc hr
          split at he
          · rename_i ha
            split at he
            · rename_i hn; simp at he; simpa [Instr.loadAt, Instr.sureAddr] using hg.1 ha hn he.1.symm
            · cases he
          · rename_i ha
            simp at ha
            cases hv' : e[o]? with
            | none => simp [hv'] at he
            | some v' => simp [hv'] at he; obtain ⟨rfl, _⟩ := he; simpa [Instr.loadAt, Instr.sureAddr] using hg.2 ha hv'
        · cases he
      · cases he
    | ip b off o cs cells hS hl hc hr =>
      simp only at he
      have hg := go b off cells (cs.map .d) o (by simpa using hl) hc (fun j h1 h2 => by simpa using RV.d _ _ (hr j h1 (by simpa using h2)))
      split at he
      · rename_i ha
        split at he
        · rename_i hn
          simp at he
          simpa [Instr.loadAt, Instr.sureAddr] using hg.1 ha (by simpa using hn) (by rw [← he.1])
        · cases he
      · rename_i ha
        simp at ha
        cases hv' : cs[o]? with
        | none => simp [hv'] at he
        | some v' => simp [hv'] at he; obtain ⟨rfl, _⟩ := he; simpa [Instr.loadAt, Instr.sureAddr] using hg.2 ha (by simp [hv'])
    | _ => simp at he
  · cases he

def evStore (P : Program) (h : Hp) (t : TypeId) (x v : V) : Option (List Nat × List (Nat × Blk)) :=
  match tsz P t, x, cellsV h v with
  | some (n, _), .ptr id ver i o, some cs =>
    match rdBlk h id ver with
    | some B => match B.es[i]? with
      | some e => if cs.length = n ∧ o + n ≤ e.length then some (id :: cs.flatMap refs, [(id, { B with es := B.es.set i (e.take o ++ cs ++ e.drop (o + n)) })]) else none
      | none => none
    | none => none
  | _, _, _ => none

theorem splice_flatten {α : Type} (s : Nat) : ∀ (es : List (List α)), (∀ e ∈ es, e.length = s) → ∀ (i : Nat) (e e' : List α), es[i]? = some e → e'.length = s →
    (es.set i e').flatten = es.flatten.take (i * s) ++ e' ++ es.flatten.drop (i * s + s)
  | [], _, i, e, e', h, _ => by simp at h
  | x :: es, hs, 0, e, e', h, he' => by
    have hx := hs x (by simp)
    simp [hx]
  | x :: es, hs, i + 1, e, e', h, he' => by
    have hx := hs x (by simp)
    have ih := splice_flatten s es (fun y hy => hs y (by simp [hy])) i e e' (by simpa using h) he'
    have h1 : (i + 1) * s = s + i * s := by rw [Nat.add_mul]; omega
    simp only [List.set_cons_succ, List.flatten_cons, ih, List.take_append, List.drop_append, hx, h1, List.append_assoc]
    rw [List.take_of_length_le (by rw [hx]; omega : x.length ≤ s + i * s), List.drop_of_length_le (by rw [hx]; omega : x.length ≤ s + i * s + s)]
    have e1 : s + i * s - s = i * s := by omega
    have e2 : s + i * s + s - s = i * s + s := by omega
    simp [e1, e2]

theorem evStore_sound (H : HR w S h m nx) {t : TypeId} {cx cv : Value} {x v : V} (hx : RV w S h m nx cx x) (hv : RV w S h m nx cv v) {rd : List Nat} {id : Nat} {B' : Blk}
    (he : evStore P h t x v = some (rd, [(id, B')])) :
    ∃ w', (Instr.storeAt t cx cv).run P w = .ok () w' ∧ Ext w S h m nx w' S (h.upd id B') m nx ∧ HR w' S (h.upd id B') m nx := by
  unfold evStore at he
  split at he
  · rename_i n ag id' ver i o cs ht hcs
    split at he
    · rename_i B hB
      obtain ⟨hB, hver'⟩ := rdBlk_some hB
      split at he
      · rename_i e hes
        split at he
        · rename_i hcond
          obtain ⟨hn, ho⟩ := hcond
          simp only [Option.some.injEq, Prod.mk.injEq, List.cons.injEq, and_true] at he
          obtain ⟨_, rfl, rfl⟩ := he
          obtain ⟨hcl, hcr, hc1⟩ := cellsV_rv hv hcs
          obtain ⟨C, hC, hCl, hcap, hmax, hs, hone, hr⟩ := H.blk id' B hB
          have hes' : e.length = B.s := hs e (List.mem_of_getElem? hes)
          have hi := (List.getElem?_eq_some_iff.1 hes).1
          have hfl := flatten_len B.s B.es hs
          have hbound : i * B.s + B.s ≤ B.es.flatten.length := by
            rw [hfl]
            have := Nat.mul_le_mul_right B.s (show i + 1 ≤ B.es.length from hi)
            rw [Nat.add_mul] at this; omega
          have hbC : B.es.flatten.length ≤ C.length := by rw [hfl, hCl]; exact Nat.mul_le_mul_right _ hcap
          cases hx with
          | ptr _ _ _ _ _ hlt hver hvp =>
            obtain ⟨_, rfl⟩ := hvp B hB hver'
            have hst := run_storeCells_at P (m id').1 (i * B.s + o) B.T cv.cells.toList 0 C.toArray w hC (by simp only [List.size_toArray]; rw [hcl]; omega) hc1
            simp only [Nat.add_zero] at hst
            have hsize : cv.cells.size = n := by simpa using hcl.trans hn
            have hrun : (Instr.storeAt t (.pointer (some ⟨(m id').1, i * B.s + o, none⟩)) cv).run P w = .ok () (w.setRow (m id').1 (C.take (i * B.s + o) ++ cv.cells.toList ++ C.drop (i * B.s + o + cv.cells.toList.length)).toArray) := by
              simp only [Instr.storeAt, Instr.sureAddr, storeVar, Sem.run_bind, Sem.run_pure, Result.andThen_ok, run_sizeOf ht, hsize]
              simpa using hst
            have hfs : (B.es.set i (e.take o ++ cs ++ e.drop (o + n))).flatten = B.es.flatten.take (i * B.s + o) ++ cs ++ B.es.flatten.drop (i * B.s + o + n) := by
              have hsf := splice_flatten B.s B.es hs i e (e.take o ++ cs ++ e.drop (o + n)) hes (by simp; omega)
              rw [hsf]
              have he1 : e = (B.es.flatten.drop (i * B.s)).take B.s := by
                apply List.ext_getElem?
                intro j
                by_cases hj : j < B.s
                · rw [List.getElem?_take_of_lt hj, List.getElem?_drop, flatten_at B.s B.es hs i j hj, hes, Option.bind_some]
                · rw [List.getElem?_eq_none (by omega), List.getElem?_eq_none (by simp; omega)]
              have a1 : e.take o = (B.es.flatten.drop (i * B.s)).take o := by rw [he1, List.take_take]; congr 1; omega
              have a2 : e.drop (o + n) = (B.es.flatten.drop (i * B.s + o + n)).take (B.s - (o + n)) := by
                rw [he1, List.drop_take, List.drop_drop]; congr 2; omega
              have b1 : B.es.flatten.take (i * B.s) ++ (B.es.flatten.drop (i * B.s)).take o = B.es.flatten.take (i * B.s + o) := by rw [List.take_add]
              have b2 : (B.es.flatten.drop (i * B.s + o + n)).take (B.s - (o + n)) ++ B.es.flatten.drop (i * B.s + B.s) = B.es.flatten.drop (i * B.s + o + n) := by
                have h1 := List.take_append_drop (B.s - (o + n)) (B.es.flatten.drop (i * B.s + o + n))
                rw [List.drop_drop] at h1
                have h2 : i * B.s + o + n + (B.s - (o + n)) = i * B.s + B.s := by omega
                rw [h2] at h1
                exact h1
              rw [a1, a2, ← b1]
              conv => rhs; rw [← b2]
              simp only [List.append_assoc]
            have hw := H.write id' B { B with es := B.es.set i (e.take o ++ cs ++ e.drop (o + n)) } hB rfl rfl (Nat.le_refl _) (fun _ => by simp) (by simpa using hcap) (fun y hy => by
                rcases List.mem_or_eq_of_mem_set hy with hy | rfl
                · exact hs y hy
                · simp; omega) C (C.take (i * B.s + o) ++ cv.cells.toList ++ C.drop (i * B.s + o + cv.cells.toList.length)) hC (by simp only [List.length_append, List.length_take, List.length_drop]; omega) (fun u hu => by
                rcases List.mem_append.1 hu with hu | hu
                · rcases List.mem_append.1 hu with hu | hu
                  · exact hone u (List.mem_of_mem_take hu)
                  · exact hc1 u hu
                · exact hone u (List.mem_of_mem_drop hu)) (fun j h1 h2 => by
                have e1 : ((C.take (i * B.s + o) ++ cv.cells.toList ++ C.drop (i * B.s + o + cv.cells.toList.length)))[j]? = some ((C.take (i * B.s + o) ++ cv.cells.toList ++ C.drop (i * B.s + o + cv.cells.toList.length))[j]) := List.getElem?_eq_getElem h1
                have e2 : ((B.es.set i (e.take o ++ cs ++ e.drop (o + n))).flatten)[j]? = some ((B.es.set i (e.take o ++ cs ++ e.drop (o + n))).flatten[j]) := List.getElem?_eq_getElem h2
                revert e1 e2
                generalize (C.take (i * B.s + o) ++ cv.cells.toList ++ C.drop (i * B.s + o + cv.cells.toList.length))[j] = a
                generalize (B.es.set i (e.take o ++ cs ++ e.drop (o + n))).flatten[j] = b
                intro e1 e2
                rw [hfs] at e2
                rw [hcl, hn] at e1
                by_cases c1 : j < i * B.s + o
                · rw [List.append_assoc, List.getElem?_append_left (by rw [List.length_take]; omega), List.getElem?_take_of_lt c1, List.getElem?_eq_getElem (by omega)] at e1
                  rw [List.append_assoc, List.getElem?_append_left (by rw [List.length_take]; omega), List.getElem?_take_of_lt c1, List.getElem?_eq_getElem (by omega)] at e2
                  have := hr j (by omega) (by omega)
                  rw [Option.some.inj e1, Option.some.inj e2] at this
                  exact this
                · by_cases c2 : j < i * B.s + o + n
                  · rw [List.append_assoc, List.getElem?_append_right (by rw [List.length_take]; omega), List.length_take_of_le (by omega), List.getElem?_append_left (by omega), List.getElem?_eq_getElem (by omega)] at e1
                    rw [List.append_assoc, List.getElem?_append_right (by rw [List.length_take]; omega), List.length_take_of_le (by omega), List.getElem?_append_left (by omega), List.getElem?_eq_getElem (by omega)] at e2
                    have := hcr (j - (i * B.s + o)) (by omega) (by omega)
                    rw [Option.some.inj e1, Option.some.inj e2] at this
                    exact this
                  · have hjC : j < C.length := by
                      have := (List.getElem?_eq_some_iff.1 e1).1
                      simp at this; omega
                    have hjB : j < B.es.flatten.length := by
                      have := (List.getElem?_eq_some_iff.1 e2).1
                      simp only [List.length_append, List.length_take, List.length_drop] at this; omega
                    rw [List.getElem?_append_right (by simp only [List.length_append, List.length_take]; omega), List.getElem?_drop, List.getElem?_eq_getElem (by simp only [List.length_append, List.length_take]; omega)] at e1
                    rw [List.getElem?_append_right (by simp only [List.length_append, List.length_take]; omega), List.getElem?_drop, List.getElem?_eq_getElem (by simp only [List.length_append, List.length_take]; omega)] at e2
                    have hr' := hr j hjC hjB
                    have x1 : C[j] = a := by rw [← Option.some.inj e1]; congr 1; simp only [List.length_append, List.length_take]; omega
                    have x2 : B.es.flatten[j] = b := by rw [← Option.some.inj e2]; congr 1; simp only [List.length_append, List.length_take]; omega
                    rw [x1, x2] at hr'
                    exact hr')
            exact ⟨_, hrun, hw.1, hw.2⟩
        · cases he
      · cases he
    · cases he
  · cases he

end
end Go.Proofs.YtepahgbgijmipaaEv
