/- A logic over abstract states for walks, twenty-fifth part: from a contract of a law over bytes to its call. -/
import Derived.Test.YtepahgbgijmipaaEv24
namespace Go.Proofs.YtepahgbgijmipaaEv
open Go Go.RowKit

/-- Bytes as they come in. -/
def IsRow (w : World) (a : Option Addr) (len cap : Nat) (zs : List Int) : Prop :=
  (a = none ∧ len = 0 ∧ cap = 0 ∧ zs = []) ∨
  ∃ x, a = some x ∧ len ≤ cap ∧ cap ≤ maxLen ∧ zs.length = cap ∧ (∀ i, i < zs.length → w.cell? (x.add i) = some (.int .u8 (zs.getD i 0))) ∧ ∀ n ∈ zs, (Lit.int .u8 n).wf = true

def bytesD (z : List Int) : D := .ls 1 (z.map fun x => [.int .u8 x])

theorem flat_one (z : List Int) : (z.map fun x => [D.int .u8 x]).flatten = z.map (D.int .u8) := by
  induction z with
  | nil => rfl
  | cons x z ih => simp [ih]

theorem law_call {P : Program} {f : FuncId} {w : World} {a : Option Addr} {len cap : Nat} {z : List Int} (hrow : IsRow w a len cap z)
    (hs : ∀ l : List Int, l.length ≤ maxLen → (∀ x ∈ l, 0 ≤ x ∧ x ≤ 255) → FnSpec P f [.d (bytesD l)] [] fun r _ => r = .d (.bool true)) :
    Calls P f #[.slice a len cap] w fun e w' => e = .returned (.bool true) ∧ Below w.heap.size w w' := by
  have key : ∀ (S : Nat → Prop) (l : List Int), l.length ≤ maxLen → (∀ x ∈ l, 0 ≤ x ∧ x ≤ 255) → (∀ b, S b → b < w.heap.size) → RD w S (.slice a len cap) (bytesD l) →
      Calls P f #[.slice a len cap] w fun e w' => e = .returned (.bool true) ∧ Below w.heap.size w w' := by
    intro S l hl hb hS hd
    have H : HR w S (ofL []) (fun _ => (0, 0)) (low 0) := { st := fun b hb => ⟨hS b hb, fun i B (hB : ([] : List Blk)[i]? = some B) => by simp at hB⟩, inj := fun i j B B' (hB : ([] : List Blk)[i]? = some B) => by simp at hB, lt := fun i B (hB : ([] : List Blk)[i]? = some B) => by simp at hB, blk := fun i B (hB : ([] : List Blk)[i]? = some B) => by simp at hB }
    refine (hs l hl hb w S (fun _ => (0, 0)) [.slice a len cap] H ⟨rfl, fun j h1 h2 => ?_⟩).mono fun e w' ⟨v, r, h', nx', S', m', h1, ⟨_, _, bx', _, _, _, h2⟩, h3, h4, h5⟩ => ?_
    · have : j = 0 := by simp at h1; omega
      subst this
      exact .d _ _ hd
    · subst h2
      rw [h1, rv_bool h5]
      exact ⟨rfl, h3.os, h3.tape, h3.output, h3.size, fun k hk => h3.keep k hk fun i B (hB : ([] : List Blk)[i]? = some B) => by simp at hB⟩
  rcases hrow with ⟨rfl, rfl, rfl, rfl⟩ | ⟨x, rfl, h1, h2, h3, h4, h5⟩
  · exact key (fun _ => False) [] (by simp) (by simp) (fun b hb => hb.elim) (.ls0 1 none 0)
  · have hw : ∀ x ∈ z.take len, 0 ≤ x ∧ x ≤ 255 := fun x hx => by
      have := h5 x (List.mem_of_mem_take hx)
      simp [Lit.wf, IntKind.min, IntKind.max, IntKind.signed, IntKind.bits] at this
      omega
    have hlen : (z.take len).length = len := by simp; omega
    by_cases h0 : len = 0
    · subst h0
      refine key (fun _ => False) [] (by simp) (by simp) (fun b hb => hb.elim) (.ls0 1 (some x) cap)
    · have hx : x.spot = none ∧ x.block < w.heap.size := by
        have := h4 0 (by omega)
        unfold World.cell? at this
        split at this
        · rename_i c _ _ hc
          have hlt := (Array.getElem?_eq_some_iff.1 hc).1
          split at this
          · cases this
          · rename_i hsp
            simp [Addr.add] at hsp hlt
            exact ⟨by simpa using hsp, hlt⟩
        · cases this
      obtain ⟨b, off, sp⟩ := x
      simp only at hx
      obtain ⟨rfl, hlt⟩ := hx
      refine key (fun b' => b' = b) (z.take len) (by unfold maxLen at *; omega) hw (fun b' hb => by subst hb; exact hlt) ?_
      have hfl := flat_one (z.take len)
      have hel : ((z.take len).map fun x => [D.int .u8 x]).length = len := by simp; omega
      have := RD.ls (w := w) (S := fun b' => b' = b) b off cap 1 ((z.take len).map fun x => [D.int .u8 x]) ((z.take len).map fun x => Value.int .u8 x) rfl (by omega) (fun e he => by
          obtain ⟨q, _, rfl⟩ := List.mem_map.1 he
          rfl) (by rw [hfl]; simp)
        (fun j hj => by
          simp only [List.length_map] at hj
          have h6 := h4 j (by omega)
          have h7 : w.cell? ⟨b, off + j, none⟩ = some (.int .u8 (z.getD j 0)) := by
            unfold Addr.add at h6
            split at h6
            · rename_i hj0; subst hj0; exact h6
            · exact h6
          rw [h7, List.getElem_map, List.getElem_take, List.getD_eq_getElem?_getD, List.getElem?_eq_getElem (by omega)]
          rfl)
        (fun j hj hj' => by
          rw [List.getElem_of_eq hfl, List.getElem_map, List.getElem_map]
          exact .int _ _)
      rw [hel] at this
      exact this
end Go.Proofs.YtepahgbgijmipaaEv
