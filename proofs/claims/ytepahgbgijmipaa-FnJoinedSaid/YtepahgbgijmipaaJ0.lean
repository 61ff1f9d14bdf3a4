/- Who may reach a partition: plain part. -/
import Derived.Test.YtepahgbgijmipaaC5
import Derived.Test.YtepahgbgijmipaaT1
namespace Go.Proofs.Ytepahgbgijmipaa
open Go Go.RowKit Go.Proofs.YtepahgbgijmipaaEv
set_option linter.unusedSimpArgs false
set_option linter.unusedVariables false
set_option maxRecDepth 4000

/-- One may reach another by one channel. -/
def Adj (cs : List Chan) (q p : Nat) : Prop := ∃ r ∈ cs, (r.frm = q ∧ r.to = p) ∨ (r.kind = 1 ∧ r.to = q ∧ r.frm = p)
inductive Reach (cs : List Chan) : Nat → Nat → Prop
  | refl (p : Nat) : Reach cs p p
  | step {q s p : Nat} (h : Adj cs q s) (hr : Reach cs s p) : Reach cs q p
theorem Reach.trans {cs : List Chan} {q s p : Nat} (h : Reach cs q s) (h' : Reach cs s p) : Reach cs q p := by
  induction h with
  | refl => exact h'
  | step a _ ih => exact .step a (ih h')
abbrev boolE (b : Bool) : List V := [.d (.bool b)]
theorem cn_boolE (h : Hp) (c : Nat) (ids : List Nat) (n : Nat) (l : List Bool) : mapO (mapO (cnV h c ids n)) (l.map boolE) = some (l.map boolE) := mapO_map (fun x => by simp only [mapO, cnV]) l
theorem set_boolE (l : List Bool) (i : Nat) (b : Bool) : (l.map boolE).set i [V.d (.bool b)] = (l.set i b).map boolE := by
  rw [List.map_set]
theorem rep_boolE (n : Nat) : List.replicate n [V.d (D.bool false)] = (List.replicate n false).map boolE := by
  rw [List.map_replicate]
attribute [go_sem] cn_boolE set_boolE rep_boolE
/-- How many are not in. -/
def outN (b : List Bool) : Nat := (b.filter (! ·)).length
theorem outN_set {b : List Bool} {i : Nat} (h : i < b.length) (hb : b[i] = false) : outN (b.set i true) < outN b := by
  induction b generalizing i with
  | nil => simp at h
  | cons x b ih =>
    cases i with
    | zero =>
      simp only [List.getElem_cons_zero] at hb
      subst hb
      simp [outN]
    | succ i =>
      have := ih (i := i) (by simpa using h) (by simpa using hb)
      simp only [outN, List.set_cons_succ, List.filter_cons] at this ⊢
      split <;> simp <;> omega
theorem set_same_bool {b : List Bool} {i : Nat} (h : i < b.length) : b.set i b[i] = b := List.set_getElem_self h
/-- A list of bools that holds none who does not reach p, and p. -/
structure Snd (cs : List Chan) (n p : Nat) (b : List Bool) : Prop where
  len : b.length = n
  self : ∃ h : p < b.length, b[p] = true
  sound : ∀ q (h : q < b.length), b[q] = true → Reach cs q p
/-- Nothing is left to be done by a channel. -/
def ClosedBy (b : List Bool) (r : Chan) : Prop := ∀ (hf : r.frm.toNat < b.length) (ht : r.to.toNat < b.length), (b[r.to.toNat] = true → b[r.frm.toNat] = true) ∧ (r.kind = 1 → b[r.frm.toNat] = true → b[r.to.toNat] = true)
/-- Between two passes: b0 is what stood at the begin of the pass, b what stands now, with k channels done. -/
structure Pass (cs : List Chan) (n p : Nat) (b0 b : List Bool) (more : Bool) (k : Nat) : Prop where
  snd : Snd cs n p b
  le : more = true → outN b < outN b0
  eq : more = false → b = b0
  closed : more = false → ∀ j (h : j < cs.length), j < k → ClosedBy b cs[j]

theorem Pass.add {cs : List Chan} {n p : Nat} {b0 b : List Bool} {more : Bool} {k : Nat} (h : Pass cs n p b0 b more k) (hk : k < cs.length) {i : Nat} (hi : i < b.length) (hb : b[i] = false) (hr : Reach cs i p) : Pass cs n p b0 (b.set i true) true (k + 1) := by
  obtain ⟨⟨h1, ⟨h2, h3⟩, h4⟩, h5, h6, h7⟩ := h
  have hlt : outN (b.set i true) < outN b0 := by
    have := outN_set hi hb
    cases more with
    | true => have := h5 rfl; omega
    | false => have := h6 rfl; subst this; exact this
  refine ⟨⟨by simpa using h1, ⟨by simpa using h2, ?_⟩, fun q hq hqt => ?_⟩, (fun _ => hlt), (fun h => absurd h (by decide)), (fun h => absurd h (by decide))⟩
  · rw [List.getElem_set]; split
    · rfl
    · exact h3
  · rw [List.getElem_set] at hqt
    split at hqt
    · rename_i e; subst e; exact hr
    · exact h4 q (by simpa using hq) hqt
theorem Pass.skip {cs : List Chan} {n p : Nat} {b0 b : List Bool} {more : Bool} {k : Nat} (h : Pass cs n p b0 b more k) (hk : k < cs.length) (hc : ClosedBy b cs[k]) : Pass cs n p b0 b more (k + 1) := by
  obtain ⟨h1, h5, h6, h7⟩ := h
  refine ⟨h1, h5, h6, fun hm j hj hjk => ?_⟩
  by_cases e : j = k
  · subst e; exact hc
  · exact h7 hm j hj (by omega)
theorem reach_frm {cs : List Chan} {k : Nat} {p : Nat} (hk : k < cs.length) {f g : Nat} (hf : cs[k].frm = (f : Int)) (hg : cs[k].to = (g : Int)) (h : Reach cs g p) : Reach cs f p := .step ⟨cs[k], List.getElem_mem hk, .inl ⟨hf, hg⟩⟩ h
theorem reach_to {cs : List Chan} {k : Nat} {p : Nat} (hk : k < cs.length) {f g : Nat} (hf : cs[k].frm = (f : Int)) (hg : cs[k].to = (g : Int)) (hq : cs[k].kind = 1) (h : Reach cs f p) : Reach cs g p := .step ⟨cs[k], List.getElem_mem hk, .inr ⟨hq, hg, hf⟩⟩ h
/-- Closed under all channels: all who reach p are in. -/
theorem Snd.all {cs : List Chan} {n p : Nat} {b : List Bool} (h : Snd cs n p b) (hr : ∀ r ∈ cs, 0 ≤ r.frm ∧ r.frm < n ∧ 0 ≤ r.to ∧ r.to < n) (hc : ∀ j (hj : j < cs.length), ClosedBy b cs[j]) : ∀ q (hq : q < b.length), b[q] = true ↔ Reach cs q p := by
  have back : ∀ q s, Reach cs q s → ∀ (hs : s < b.length), b[s] = true → ∃ hq : q < b.length, b[q] = true := fun q s hqs => by
    induction hqs with
    | refl => exact fun hs hb => ⟨hs, hb⟩
    | @step q s p ha _ ih =>
      intro hs hb
      obtain ⟨hs', hb'⟩ := ih hs hb
      obtain ⟨r, hrm, hor⟩ := ha
      obtain ⟨j, hj, rfl⟩ := List.mem_iff_getElem.1 hrm
      obtain ⟨r1, r2, r3, r4⟩ := hr _ hrm
      have hlen := h.len
      have hcj := hc j hj (by omega) (by omega)
      rcases hor with ⟨e1, e2⟩ | ⟨e0, e1, e2⟩
      · have e1' : cs[j].frm.toNat = q := by omega
        have e2' : cs[j].to.toNat = s := by omega
        have := hcj.1 (by simpa only [e2'] using hb')
        exact ⟨by omega, by simpa only [e1'] using this⟩
      · have e1' : cs[j].to.toNat = q := by omega
        have e2' : cs[j].frm.toNat = s := by omega
        have := hcj.2 e0 (by simpa only [e2'] using hb')
        exact ⟨by omega, by simpa only [e1'] using this⟩
  intro q hq
  refine ⟨h.sound q hq, fun hqp => ?_⟩
  obtain ⟨h1, h2⟩ := h.self
  exact (back q p hqp h1 h2).2
end Go.Proofs.Ytepahgbgijmipaa
