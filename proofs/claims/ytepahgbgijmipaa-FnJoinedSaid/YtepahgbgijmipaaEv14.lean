/- A logic over abstract states for walks, fourteenth part: what an operation hangs on. -/
import Derived.Test.YtepahgbgijmipaaEv13
import Derived.Still
namespace Go.Proofs.YtepahgbgijmipaaEv
open Go Go.RowKit

/-- Two heaps hold the same at some numbers. -/
def Agree (rd : List Nat) (h h' : Hp) : Prop := ∀ j ∈ rd, h' j = h j

section
variable {P : Program} {h h' : Hp}

theorem live_local {x : V} (ha : Agree (refs x) h h') : live h' x = live h x := by
  cases x <;> simp only [live]
  · rename_i id ver i o; rw [ha id (by simp [refs])]
  · rename_i id ver off len; rw [ha id (by simp [refs])]
theorem rdBlk_local {id ver : Nat} (ha : h' id = h id) : rdBlk h' id ver = rdBlk h id ver := by simp only [rdBlk, ha]

theorem cellsV_local {x : V} {cs : List V} (hc : cellsV h x = some cs) (ha : Agree (cs.flatMap refs) h h') : cellsV h' x = some cs := by
  have one : ∀ x : V, (if live h x = true then some [x] else none) = some cs → (if live h' x = true then some [x] else none) = some cs := fun x hc => by
    split at hc
    · rename_i hl
      cases hc
      rw [live_local (fun j hj => ha j (by simpa using hj)), if_pos hl]
    · cases hc
  cases x with
  | any => simp [cellsV] at hc
  | tup => simp [cellsV] at hc
  | agg l =>
    simp only [cellsV] at hc ⊢
    split at hc
    · rename_i hall
      cases hc
      rw [if_pos]
      rw [List.all_eq_true] at hall ⊢
      intro c hcm
      rw [live_local (fun j hj => ha j (List.mem_flatMap.2 ⟨c, hcm, hj⟩))]
      exact hall c hcm
    · cases hc
  | d x => simpa [cellsV, live] using hc
  | ip cs o => simpa [cellsV, live] using hc
  | fn f l => simpa [cellsV, live] using hc
  | ptr id ver i o => exact one _ hc
  | sl id ver off len => exact one _ hc

theorem evOff_local {x : V} {off : Nat} {v : V} {rd : List Nat} (he : evOff h x off = some (v, rd)) (ha : Agree rd h h') : evOff h' x off = some (v, rd) := by
  unfold evOff at he ⊢
  split at he
  · rename_i id ver i o
    split at he
    · rename_i hl
      cases he
      have : live h' (.ptr id ver i o) = true := by rw [live_local (fun j hj => ha j (by simpa [refs] using hj))]; exact hl
      simp [this]
    · cases he
  · exact he
  · cases he

theorem rdBlk_one {id ver : Nat} (ha : Agree [id] h h') : rdBlk h' id ver = rdBlk h id ver := rdBlk_local (ha id (by simp))

theorem evLoad_local {t : TypeId} {x : V} {v : V} {rd : List Nat} (he : evLoad P h t x = some (v, rd)) (ha : Agree rd h h') : evLoad P h' t x = some (v, rd) := by
  unfold evLoad at he ⊢
  cases ht : tsz P t with
  | none => simp [ht] at he
  | some p =>
    obtain ⟨n, ag⟩ := p
    simp only [ht] at he ⊢
    cases x with
    | ptr id ver i o =>
      simp only at he ⊢
      have hrd : rd = [id] := by
        split at he
        · split at he
          · split at he
            · split at he
              · cases he; rfl
              · cases he
            · rename_i e _ _
              cases hq : e[o]? with
              | none => simp [hq] at he
              | some q => simp [hq] at he; exact he.2.symm
          · cases he
        · cases he
      rw [rdBlk_local (ha id (by simp [hrd]))]
      exact he
    | _ => exact he

theorem evStore_local {t : TypeId} {x v : V} {rd : List Nat} {wr : List (Nat × Blk)} (he : evStore P h t x v = some (rd, wr)) (ha : Agree rd h h') : evStore P h' t x v = some (rd, wr) := by
  unfold evStore at he
  split at he
  · rename_i n ag id ver i o cs ht hcs
    have hrd : rd = id :: cs.flatMap refs := by
      split at he
      · split at he
        · split at he
          · cases he; rfl
          · cases he
        · cases he
      · cases he
    have h1 := cellsV_local hcs (h' := h') (fun j hj => ha j (by simp [hrd, hj]))
    unfold evStore
    simp only [ht, h1]
    rw [rdBlk_local (ha id (by simp [hrd]))]
    exact he
  · cases he

theorem srcV_local {tx s : Nat} {x : V} {es : List (List V)} {rd : List Nat} (he : srcV P h tx s x = some (es, rd)) (ha : Agree rd h h') : srcV P h' tx s x = some (es, rd) := by
  unfold srcV at he ⊢
  split at he
  · exact he
  · exact he
  · exact he
  · rename_i id ver off len
    split at he
    · rename_i p B hte hB
      split at he
      · rename_i hs
        cases he
        simp only [hte, rdBlk_local (ha id (by simp)), hB, hs, if_true]
      · cases he
    · cases he
  · cases he

theorem evEq_local {t : TypeId} {x y : V} {r : Bool} {rd : List Nat} (he : evEq P h t x y = some (r, rd)) (ha : Agree rd h h') : evEq P h' t x y = some (r, rd) := by
  unfold evEq at he ⊢
  split at he
  · exact he
  · exact he
  · exact he
  · split at he
    · rename_i p B h1 h2
      cases he
      simp [h1, rdBlk_one ha, h2]
    · cases he
  · split at he
    · rename_i p B h1 h2
      cases he
      simp [h1, rdBlk_one ha, h2]
    · cases he
  · exact he
  · split at he
    · rename_i p B h1 h2
      cases he
      simp [h1, rdBlk_one ha, h2]
    · cases he
  · split at he
    · rename_i p B h1 h2
      cases he
      simp [h1, rdBlk_one ha, h2]
    · cases he
  · cases he

theorem fillV_local {place : Nat → Option (Nat × Nat)} : ∀ {parts : List (Nat × V)} {cells out : List V}, fillV h place cells parts = some out →
    Agree (parts.flatMap fun p => ((cellsV h p.2).getD []).flatMap refs) h h' → fillV h' place cells parts = some out
  | [], cells, out, he, _ => he
  | (i, v) :: rest, cells, out, he, ha => by
    simp only [fillV] at he ⊢
    split at he
    · rename_i off size cs hp hcs
      have h1 := cellsV_local hcs (h' := h') (fun j hj => ha j (by simp only [List.flatMap_cons, List.mem_append]; exact .inl (by simpa [hcs] using hj)))
      simp only [hp, h1]
      split at he
      · rename_i hc
        rw [if_pos hc]
        exact fillV_local he (fun j hj => ha j (by simp only [List.flatMap_cons, List.mem_append]; exact .inr hj))
      · cases he
    · cases he

theorem fillE_local {s : Nat} : ∀ {parts : List (Nat × V)} {cells out : List (List V)}, fillE h s cells parts = some out →
    Agree (parts.flatMap fun p => ((cellsV h p.2).getD []).flatMap refs) h h' → fillE h' s cells parts = some out
  | [], cells, out, he, _ => he
  | (i, v) :: rest, cells, out, he, ha => by
    simp only [fillE] at he ⊢
    split at he
    · rename_i cs hcs
      have h1 := cellsV_local hcs (h' := h') (fun j hj => ha j (by simp only [List.flatMap_cons, List.mem_append]; exact .inl (by simpa [hcs] using hj)))
      simp only [h1]
      split at he
      · rename_i hc
        rw [if_pos hc]
        exact fillE_local he (fun j hj => ha j (by simp only [List.flatMap_cons, List.mem_append]; exact .inr hj))
      · cases he
    · cases he

/-- The cells of the parts of a literal, once more. -/
theorem parts_cells : ∀ {parts : List (Nat × V)}, (∀ p ∈ parts, (cellsV h p.2).isSome = true) → Agree (parts.flatMap fun p => ((cellsV h p.2).getD []).flatMap refs) h h' →
    (parts.flatMap fun p => ((cellsV h' p.2).getD []).flatMap refs) = parts.flatMap fun p => ((cellsV h p.2).getD []).flatMap refs
  | [], _, _ => rfl
  | p :: rest, hs, ha => by
    obtain ⟨cs, hcs⟩ := Option.isSome_iff_exists.1 (hs p (by simp))
    have h1 := cellsV_local hcs (h' := h') (fun j hj => ha j (by simp only [List.flatMap_cons, List.mem_append]; exact .inl (by simpa [hcs] using hj)))
    have ih := parts_cells (parts := rest) (fun q hq => hs q (by simp [hq])) (fun j hj => ha j (by simp only [List.flatMap_cons, List.mem_append]; exact .inr hj))
    simp only [List.flatMap_cons, ih, h1, hcs]
theorem fillV_some {place : Nat → Option (Nat × Nat)} : ∀ {parts : List (Nat × V)} {cells out : List V}, fillV h place cells parts = some out → ∀ p ∈ parts, (cellsV h p.2).isSome = true
  | [], _, _, _, p, hp => by simp at hp
  | (i, v) :: rest, cells, out, he, p, hp => by
    simp only [fillV] at he
    split at he
    · rename_i off size cs hpl hcs
      split at he
      · rcases List.mem_cons.1 hp with rfl | hp
        · simp [hcs]
        · exact fillV_some he p hp
      · cases he
    · cases he
theorem fillE_some {s : Nat} : ∀ {parts : List (Nat × V)} {cells out : List (List V)}, fillE h s cells parts = some out → ∀ p ∈ parts, (cellsV h p.2).isSome = true
  | [], _, _, _, p, hp => by simp at hp
  | (i, v) :: rest, cells, out, he, p, hp => by
    simp only [fillE] at he
    split at he
    · rename_i cs hcs
      split at he
      · rcases List.mem_cons.1 hp with rfl | hp
        · simp [hcs]
        · exact fillE_some he p hp
      · cases he
    · cases he

theorem evOp_local {ρ : Operand → V} {id : Nat} {op : Op} {v : V} {rd : List Nat} {wr : List (Nat × Blk)} (he : evOp P ρ h id op = some (v, rd, wr)) (ha : Agree rd h h') : evOp P ρ h' id op = some (v, rd, wr) := by
  have l2 : ∀ {r r' : Option (V × List Nat)}, rd2 r = some (v, rd, wr) → (∀ v rd', r = some (v, rd') → Agree rd' h h' → r' = some (v, rd')) → rd2 r' = some (v, rd, wr) := by
    intro r r' h1 h2
    obtain ⟨h3, h4⟩ := rd2_some h1
    rw [h2 v rd h3 ha, h4]; rfl
  cases op with
  | box t x =>
    simp only [evOp] at he ⊢
    split at he
    · rename_i cs hcs
      simp only [evBox, Option.some.injEq, Prod.mk.injEq] at he
      obtain ⟨h1, h2, h3⟩ := he
      rw [cellsV_local hcs (by rw [h2]; exact ha)]
      simp only [evBox, h1, h2, h3]
    · cases he
  | build t parts =>
    simp only [evOp] at he ⊢
    cases hb : evBuild P h t (parts.toList.map fun p => (p.1, ρ p.2)) with
    | none => simp [hb] at he
    | some v' =>
      simp only [hb, Option.map_some, Option.some.injEq, Prod.mk.injEq] at he
      obtain ⟨h1, h2, h3⟩ := he
      have hfl : (parts.toList.flatMap fun p => ((cellsV h (ρ p.2)).getD []).flatMap refs) = (parts.toList.map fun p => (p.1, ρ p.2)).flatMap fun p => ((cellsV h p.2).getD []).flatMap refs := by
        simp [List.flatMap_map]
      have hfl' : (parts.toList.flatMap fun p => ((cellsV h' (ρ p.2)).getD []).flatMap refs) = (parts.toList.map fun p => (p.1, ρ p.2)).flatMap fun p => ((cellsV h' p.2).getD []).flatMap refs := by
        simp [List.flatMap_map]
      rw [hfl] at h2
      have ha' : Agree ((parts.toList.map fun p => (p.1, ρ p.2)).flatMap fun p => ((cellsV h p.2).getD []).flatMap refs) h h' := by rw [h2]; exact ha
      have key : evBuild P h' t (parts.toList.map fun p => (p.1, ρ p.2)) = some v' ∧ ∀ p ∈ (parts.toList.map fun p => (p.1, ρ p.2)), (cellsV h p.2).isSome = true := by
        unfold evBuild at hb ⊢
        split at hb
        · rename_i z hz
          try simp only [hz]
          split at hb
          · rename_i ps hps
            cases hf : fillV h (fun i => ps[i]?) (z.map ofCell) (parts.toList.map fun p => (p.1, ρ p.2)) with
            | none => simp [hf] at hb
            | some out =>
              simp only [hf, Option.map_some] at hb
              exact ⟨by simp only [hps, fillV_local hf ha', Option.map_some]; exact hb, fillV_some hf⟩
          · rename_i len s a hps harr
            cases hf : fillV h (fun i => some (i * s, s)) (z.map ofCell) (parts.toList.map fun p => (p.1, ρ p.2)) with
            | none => simp [hf] at hb
            | some out =>
              simp only [hf, Option.map_some] at hb
              exact ⟨by simp only [hps, harr, fillV_local hf ha', Option.map_some]; exact hb, fillV_some hf⟩
          · cases hb
        · cases hb
      rw [key.1, hfl', parts_cells key.2 ha', h1, h2, h3]
      rfl
  | buildSlice t len parts =>
    simp only [evOp] at he ⊢
    cases hb : evBuildSlice P h id t len (parts.toList.map fun p => (p.1, ρ p.2)) with
    | none => simp [hb] at he
    | some r =>
      simp only [hb, Option.map_some, Option.some.injEq, Prod.mk.injEq] at he
      obtain ⟨h1, h2, h3⟩ := he
      have hfl : (parts.toList.flatMap fun p => ((cellsV h (ρ p.2)).getD []).flatMap refs) = (parts.toList.map fun p => (p.1, ρ p.2)).flatMap fun p => ((cellsV h p.2).getD []).flatMap refs := by
        simp [List.flatMap_map]
      have hfl' : (parts.toList.flatMap fun p => ((cellsV h' (ρ p.2)).getD []).flatMap refs) = (parts.toList.map fun p => (p.1, ρ p.2)).flatMap fun p => ((cellsV h' p.2).getD []).flatMap refs := by
        simp [List.flatMap_map]
      rw [hfl] at h2
      have ha' : Agree ((parts.toList.map fun p => (p.1, ρ p.2)).flatMap fun p => ((cellsV h p.2).getD []).flatMap refs) h h' := by rw [h2]; exact ha
      have key : evBuildSlice P h' id t len (parts.toList.map fun p => (p.1, ρ p.2)) = some r ∧ ∀ p ∈ (parts.toList.map fun p => (p.1, ρ p.2)), (cellsV h p.2).isSome = true := by
        unfold evBuildSlice at hb ⊢
        split at hb
        · rename_i e s b hte
          split at hb
          · rename_i z hz
            split at hb
            · rename_i hc
              cases hf : fillE h s (List.replicate len (z.map ofCell)) (parts.toList.map fun p => (p.1, ρ p.2)) with
              | none => simp [hf] at hb
              | some out =>
                simp only [hf, Option.map_some] at hb
                exact ⟨by simp only [hte, hz, if_pos hc, fillE_local hf ha', Option.map_some]; exact hb, fillE_some hf⟩
            · cases hb
          · cases hb
        · cases hb
      rw [key.1, hfl', parts_cells key.2 ha', h2]
      simp only [Option.map_some, h1, h3]
  | load t a => exact l2 he fun v rd' h1 h2 => evLoad_local h1 h2
  | store t a x =>
    simp only [evOp] at he ⊢
    cases hs : evStore P h t (ρ a) (ρ x) with
    | none => simp [hs] at he
    | some r =>
      simp only [hs, Option.map_some, Option.some.injEq, Prod.mk.injEq] at he
      obtain ⟨h1, h2, h3⟩ := he
      rw [evStore_local (rd := r.1) (wr := r.2) hs (by rw [h2]; exact ha)]
      simp only [Option.map_some, h1, h2, h3]
  | nilCheck x =>
    simp only [evOp] at he ⊢
    split at he
    · exact he
    · rename_i i ver j o hc
      split at he
      · rename_i hl
        cases he
        have : live h' (.ptr i ver j o) = true := by rw [live_local (fun j hj => ha j (by simpa [refs] using hj))]; exact hl
        simp [this]
      · cases he
    · exact he
    · exact he
    · cases he
  | binOp op t x y ty =>
    refine l2 he fun v rd' h1 h2 => ?_
    unfold evBin at h1 ⊢
    split at h1
    · exact h1
    · exact h1
    · split at h1
      · cases hq : evEq P h t (ρ x) (ρ y) with
        | none => simp [hq] at h1
        | some p =>
          simp [hq] at h1
          rw [evEq_local (r := p.1) (rd := p.2) hq (by rw [h1.2]; exact h2)]
          simp [h1]
      · cases hq : evEq P h t (ρ x) (ρ y) with
        | none => simp [hq] at h1
        | some p =>
          simp [hq] at h1
          rw [evEq_local (r := p.1) (rd := p.2) hq (by rw [h1.2]; exact h2)]
          simp [h1]
      · cases h1
  | convert src dst x =>
    refine l2 he fun v rd' h1 h2 => ?_
    unfold evConvert at h1 ⊢
    split at h1
    · exact h1
    · exact h1
    · split at h1
      · rename_i e b es rd'' hte hd hsrc
        split at h1
        · rename_i ns hu hb
          simp only [Option.some.injEq, Prod.mk.injEq] at h1
          obtain ⟨rfl, rfl⟩ := h1
          simp only [hte, hd, srcV_local hsrc h2, hu, hb]
        · cases h1
      · cases h1
  | slice t x lo hi mx =>
    cases mx with
    | some _ => simp [evOp] at he
    | none =>
      refine l2 he fun v rd' h1 h2 => ?_
      unfold evSlice at h1 ⊢
      split at h1
      · exact h1
      · exact h1
      · exact h1
      · rename_i i ver off len hx
        have hrd : rd' = [i] := by
          split at h1
          · split at h1
            · split at h1
              · cases h1; rfl
              · cases h1; rfl
            · cases h1
          · cases h1
        rw [hrd] at h2
        simp only [rdBlk_one h2]
        exact h1
      · cases h1
  | fieldAddr t x f =>
    refine l2 he fun v rd' h1 h2 => ?_
    unfold evFieldAddr at h1 ⊢
    split at h1
    · rename_i hf; exact evOff_local h1 h2
    · cases h1
  | indexAddr t x i =>
    refine l2 he fun v rd' h1 h2 => ?_
    unfold evIndexAddr at h1 ⊢
    split at h1
    · rename_i k n hi
      split at h1
      · rename_i e s b q hte
        split at h1
        · exact h1
        · rename_i id' ver off len hx
          have hrd : rd' = [id'] := by
            split at h1
            · split at h1
              · cases h1; rfl
              · cases h1
            · cases h1
          rw [hrd] at h2
          simp only [rdBlk_one h2]
          exact h1
        · cases h1
      · split at h1
        · rename_i hc
          rw [if_pos hc]
          exact evOff_local h1 h2
        · cases h1
      · cases h1
    · cases h1
  | makeFunc fn first captured => cases fn <;> exact he
  | call c =>
    obtain ⟨callee, args, ats⟩ := c
    cases callee with
    | builtin b =>
      simp only [evOp] at he ⊢
      unfold evBuiltin at he ⊢
      split at he
      · refine l2 he fun v rd' h1 h2 => ?_
        unfold evLen at h1 ⊢
        split at h1
        · exact h1
        · exact h1
        · exact h1
        · split at h1
          · rename_i p B hte hB
            cases h1
            simp only [hte, rdBlk_one h2, hB]
          · cases h1
        · cases h1
      · rename_i t tx d x
        unfold evAppend at he ⊢
        split at he
        · rename_i e s b hte
          split at he
          · rename_i z news rd' hz hsrc
            split at he
            · rename_i hc
              split at he
              · split at he
                · rename_i hb
                  have hrd : rd = rd' := by split at he <;> (cases he; rfl)
                  subst hrd
                  simp only [hte, hz, srcV_local hsrc ha, if_pos hc, if_pos hb]
                  exact he
                · cases he
              · rename_i i ver off len
                split at he
                · rename_i B hB
                  split at he
                  · rename_i hcond
                    cases he
                    have h1 := srcV_local hsrc (h' := h') (fun j hj => ha j (by simp [hj]))
                    have h2 := rdBlk_local (ver := ver) (ha i (by simp))
                    simp only [hte, hz, h1, if_pos hc, h2, hB, if_pos hcond]
                  · cases he
                · cases he
              · cases he
            · cases he
          · cases he
        · cases he
      · rename_i t tx d x
        unfold evCopy at he ⊢
        split at he
        · cases he
        · rename_i e s b id' ver off len hns hte
          split at he
          · rename_i B es rd' hB hsrc
            split at he
            · rename_i hs
              cases he
              have h1 := srcV_local hsrc (h' := h') (fun j hj => ha j (by simp [hj]))
              have h2 := rdBlk_local (ver := ver) (ha id' (by simp))
              simp only [h1, h2, hB, if_pos hs]
            · cases he
          · cases he
        · cases he
      · exact he
      · exact he
      · cases he
    | _ => simp [evOp] at he
  | _ => exact he

end
end Go.Proofs.YtepahgbgijmipaaEv
