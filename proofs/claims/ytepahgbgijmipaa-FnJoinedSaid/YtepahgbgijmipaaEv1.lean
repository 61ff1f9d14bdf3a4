/- A logic over abstract states for walks, first part: abstract values, how concrete values stand for them, and what a change of the world keeps. -/
import Derived.Below
import Derived.OwnWalk
import Derived.Deep.AppendSrc
import Derived.Deep.DeepAppendWide
namespace Go.Proofs.YtepahgbgijmipaaEv
open Go Go.RowKit

/-- Pure data: what a value reads as, once for all. 'ls s es': a slice read by value, element by element, s cells an element. -/
inductive D where
  | bool (b : Bool)
  | int (k : IntKind) (n : Int)
  | str (s : ByteArray)
  | nilp
  | nils
  | ls (s : Nat) (es : List (List D))
  | fn (f : FuncId)

/-- A value of a walk: pure data, or a reference into the abstract heap, or parts of both. -/
inductive V where
  | any
  | d (x : D)
  | ptr (id ver i o : Nat)
  | ip (cs : List D) (o : Nat)
  | sl (id ver off len : Nat)
  | agg (cs : List V)
  | tup (vs : List V)
  | fn (f : FuncId) (caps : List V)

/-- A block of the abstract heap: a row of elements of s cells each. -/
structure Blk where
  T : TypeId
  s : Nat
  ver : Nat
  es : List (List V)

abbrev Hp := Nat → Option Blk

def All2 {α β : Type} (R : α → β → Prop) (l : List α) (m : List β) : Prop :=
  l.length = m.length ∧ ∀ (j : Nat) (h : j < l.length) (h' : j < m.length), R l[j] m[j]

inductive RD (w : World) (S : Nat → Prop) : Value → D → Prop
  | bool (b : Bool) : RD w S (.bool b) (.bool b)
  | int (k : IntKind) (n : Int) : RD w S (.int k n) (.int k n)
  | str (s : ByteArray) : RD w S (.string s) (.str s)
  | nilp : RD w S (.pointer none) .nilp
  | nils : RD w S (.slice none 0 0) .nils
  | fn (f : FuncId) : RD w S (.func (.func f) #[] #[]) (.fn f)
  | ls0 (s : Nat) (a : Option Addr) (cap : Nat) : RD w S (.slice a 0 cap) (.ls s [])
  | ls (b off cap s : Nat) (es : List (List D)) (cells : List Value) (hS : S b) (hcap : es.length ≤ cap)
      (hs : ∀ e ∈ es, e.length = s) (hl : cells.length = es.flatten.length)
      (hc : ∀ (j : Nat) (h : j < cells.length), w.cell? ⟨b, off + j, none⟩ = some cells[j])
      (hr : ∀ (j : Nat) (h : j < cells.length) (h' : j < es.flatten.length), RD w S cells[j] es.flatten[j]) :
      RD w S (.slice (some ⟨b, off, none⟩) es.length cap) (.ls s es)

theorem RD.mono {w w' : World} {S S' : Nat → Prop} (hS : ∀ b, S b → S' b) (hb : ∀ b, S b → w'.heap[b]? = w.heap[b]?) {v : Value} {x : D}
    (h : RD w S v x) : RD w' S' v x := by
  induction h with
  | bool b => exact .bool b
  | int k n => exact .int k n
  | str s => exact .str s
  | nilp => exact .nilp
  | nils => exact .nils
  | fn f => exact .fn f
  | ls0 s a cap => exact .ls0 s a cap
  | ls b off cap s es cells hSb hcap hs hl hc hr ih =>
    exact .ls b off cap s es cells (hS _ hSb) hcap hs hl
      (fun j h => (World.cell?_of_block (w := w) (a := ⟨b, off + j, none⟩) (hb _ hSb)).trans (hc j h)) ih

/-- What stands for an abstract value. A reference whose block is not there any more, or has been appended to since, says nothing. -/
inductive RV (w : World) (S : Nat → Prop) (h : Hp) (m : Nat → Nat × Nat) (nx : Nat → Prop) : Value → V → Prop
  | any (v : Value) : RV w S h m nx v .any
  | d (v : Value) (x : D) (hd : RD w S v x) : RV w S h m nx v (.d x)
  | ptr (v : Value) (id ver i o : Nat) (hlt : nx id) (hver : ∀ B, h id = some B → ver ≤ B.ver)
      (hv : ∀ B, h id = some B → B.ver = ver → i < B.es.length ∧ v = .pointer (some ⟨(m id).1, i * B.s + o, none⟩)) : RV w S h m nx v (.ptr id ver i o)
  | ip (b off o : Nat) (cs : List D) (cells : List Value) (hS : S b) (hl : cells.length = cs.length)
      (hc : ∀ (j : Nat) (h : j < cells.length), w.cell? ⟨b, off + j, none⟩ = some cells[j])
      (hr : ∀ (j : Nat) (h : j < cells.length) (h' : j < cs.length), RD w S cells[j] cs[j]) : RV w S h m nx (.pointer (some ⟨b, off + o, none⟩)) (.ip cs o)
  | sl (v : Value) (id ver off len : Nat) (hlt : nx id) (hver : ∀ B, h id = some B → ver ≤ B.ver)
      (hv : ∀ B, h id = some B → B.ver = ver → off + len ≤ B.es.length ∧ v = .slice (some ⟨(m id).1, off * B.s, none⟩) len ((m id).2 - off)) : RV w S h m nx v (.sl id ver off len)
  | agg (vs : List Value) (cs : List V) (hl : vs.length = cs.length)
      (hr : ∀ (j : Nat) (h1 : j < vs.length) (h2 : j < cs.length), RV w S h m nx vs[j] cs[j]) : RV w S h m nx (.agg vs.toArray) (.agg cs)
  | tup (vs : List Value) (cs : List V) (hl : vs.length = cs.length)
      (hr : ∀ (j : Nat) (h1 : j < vs.length) (h2 : j < cs.length), RV w S h m nx vs[j] cs[j]) : RV w S h m nx (.tuple vs.toArray) (.tup cs)
  | fn (f : FuncId) (vs : List Value) (cs : List V) (hl : vs.length = cs.length)
      (hr : ∀ (j : Nat) (h1 : j < vs.length) (h2 : j < cs.length), RV w S h m nx vs[j] cs[j]) : RV w S h m nx (.func (.func f) #[] vs.toArray) (.fn f cs)

/-- The abstract heap h lies in the world w, block i as block (m i).1, with room for (m i).2 elements; S: the blocks of which data is read by value. -/
structure HR (w : World) (S : Nat → Prop) (h : Hp) (m : Nat → Nat × Nat) (nx : Nat → Prop) : Prop where
  st : ∀ b, S b → b < w.heap.size ∧ ∀ i B, h i = some B → (m i).1 ≠ b
  inj : ∀ i j B B', h i = some B → h j = some B' → (m i).1 = (m j).1 → i = j
  lt : ∀ i B, h i = some B → nx i
  blk : ∀ i B, h i = some B → ∃ C : List Value, w.heap[(m i).1]? = some (.cells C.toArray B.T (0, 0)) ∧ C.length = (m i).2 * B.s ∧ B.es.length ≤ (m i).2 ∧ (m i).2 ≤ maxLen ∧
    (∀ e ∈ B.es, e.length = B.s) ∧ (∀ u ∈ C, u.oneCell' = true) ∧ (∀ (j : Nat) (h1 : j < C.length) (h2 : j < B.es.flatten.length), RV w S h m nx C[j] B.es.flatten[j])

/-- What a stretch of a walk keeps. -/
structure Ext (w : World) (S : Nat → Prop) (h : Hp) (m : Nat → Nat × Nat) (nx : Nat → Prop) (w' : World) (S' : Nat → Prop) (h' : Hp) (m' : Nat → Nat × Nat) (nx' : Nat → Prop) : Prop where
  os : w'.os = w.os
  tape : w'.tape = w.tape
  output : w'.output = w.output
  size : w.heap.size ≤ w'.heap.size
  nxle : ∀ i, nx i → nx' i
  sub : ∀ b, S b → S' b
  sNew : ∀ b, S' b → S b ∨ w.heap.size ≤ b
  keep : ∀ b, b < w.heap.size → (∀ i B, h i = some B → (m i).1 ≠ b) → w'.heap[b]? = w.heap[b]?
  ids : ∀ i B', nx i → h' i = some B' → ∃ B, h i = some B ∧ B.ver ≤ B'.ver ∧ (B.ver = B'.ver → m' i = m i ∧ B'.s = B.s ∧ B'.es.length = B.es.length)
  img : ∀ i B', h' i = some B' → (∃ B, h i = some B ∧ (m i).1 = (m' i).1) ∨ w.heap.size ≤ (m' i).1

theorem Ext.refl {w : World} {S : Nat → Prop} {h : Hp} {m : Nat → Nat × Nat} {nx : Nat → Prop} : Ext w S h m nx w S h m nx :=
  ⟨rfl, rfl, rfl, Nat.le_refl _, fun _ h => h, fun _ h => h, fun _ h => .inl h, fun _ _ _ => rfl,
   fun _ B' _ h => ⟨B', h, Nat.le_refl _, fun _ => ⟨rfl, rfl, rfl⟩⟩, fun i B' h => .inl ⟨B', h, rfl⟩⟩

theorem Ext.trans {w1 w2 w3 : World} {S1 S2 S3 : Nat → Prop} {h1 h2 h3 : Hp} {m1 m2 m3 : Nat → Nat × Nat} {n1 n2 n3 : Nat → Prop}
    (a : Ext w1 S1 h1 m1 n1 w2 S2 h2 m2 n2) (b : Ext w2 S2 h2 m2 n2 w3 S3 h3 m3 n3) : Ext w1 S1 h1 m1 n1 w3 S3 h3 m3 n3 := by
  refine ⟨b.os.trans a.os, b.tape.trans a.tape, b.output.trans a.output, Nat.le_trans a.size b.size, fun i hi => b.nxle i (a.nxle i hi), fun x h => b.sub x (a.sub x h), ?_, ?_, ?_, ?_⟩
  · intro x hx
    rcases b.sNew x hx with h | h
    · exact a.sNew x h
    · exact .inr (Nat.le_trans a.size h)
  · intro x hx hno
    have h12 := a.keep x hx hno
    rw [b.keep x (Nat.lt_of_lt_of_le hx a.size) ?_, h12]
    intro i B' hB' he
    rcases a.img i B' hB' with ⟨B, hj, hj'⟩ | h
    · exact hno i B hj (hj'.trans he)
    · omega
  · intro i B3 hi hB3
    obtain ⟨B2, hB2, hv2, he2⟩ := b.ids i B3 (a.nxle i hi) hB3
    obtain ⟨B1, hB1, hv1, he1⟩ := a.ids i B2 hi hB2
    refine ⟨B1, hB1, Nat.le_trans hv1 hv2, fun he => ?_⟩
    have e12 : B1.ver = B2.ver := by omega
    have e23 : B2.ver = B3.ver := by omega
    obtain ⟨p1, p2, p3⟩ := he1 e12
    obtain ⟨q1, q2, q3⟩ := he2 e23
    exact ⟨q1.trans p1, q2.trans p2, q3.trans p3⟩
  · intro i B3 hB3
    rcases b.img i B3 hB3 with ⟨B, hj, he⟩ | h
    · rcases a.img i B hj with ⟨B', hk, he'⟩ | h
      · exact .inl ⟨B', hk, he'.trans he⟩
      · exact .inr (by omega)
    · exact .inr (Nat.le_trans a.size h)

theorem Ext.stable {w w' : World} {S S' : Nat → Prop} {h h' : Hp} {m m' : Nat → Nat × Nat} {nx nx' : Nat → Prop} (e : Ext w S h m nx w' S' h' m' nx') (r : HR w S h m nx) :
    ∀ b, S b → w'.heap[b]? = w.heap[b]? := fun b hb => e.keep b (r.st b hb).1 fun i B hB => (r.st b hb).2 i B hB

theorem RD.ext {w w' : World} {S S' : Nat → Prop} {h h' : Hp} {m m' : Nat → Nat × Nat} {nx nx' : Nat → Prop} (e : Ext w S h m nx w' S' h' m' nx') (r : HR w S h m nx) {v : Value} {x : D}
    (hv : RD w S v x) : RD w' S' v x := hv.mono e.sub (e.stable r)

theorem RV.ext {w w' : World} {S S' : Nat → Prop} {h h' : Hp} {m m' : Nat → Nat × Nat} {nx nx' : Nat → Prop} (e : Ext w S h m nx w' S' h' m' nx') (r : HR w S h m nx) {v : Value} {x : V}
    (hv : RV w S h m nx v x) : RV w' S' h' m' nx' v x := by
  induction hv with
  | any v => exact .any v
  | d v x hd => exact .d v x (hd.ext e r)
  | ptr v id ver i o hlt hver hv =>
    refine .ptr v id ver i o (e.nxle _ hlt) (fun B' hB' => ?_) (fun B' hB' hv' => ?_)
    · obtain ⟨B, hB, h1, _⟩ := e.ids id B' hlt hB'
      exact Nat.le_trans (hver B hB) h1
    · obtain ⟨B, hB, h1, h2⟩ := e.ids id B' hlt hB'
      have := hver B hB
      obtain ⟨e1, e2, e3⟩ := h2 (by omega)
      obtain ⟨p1, p2⟩ := hv B hB (by omega)
      exact ⟨by omega, by rw [e1, e2]; exact p2⟩
  | ip b off o cs cells hS hl hc hr =>
    exact .ip b off o cs cells (e.sub b hS) hl (fun j hj => (World.cell?_of_block (w := w) (a := ⟨b, off + j, none⟩) (e.stable r b hS)).trans (hc j hj)) (fun j h1 h2 => (hr j h1 h2).ext e r)
  | sl v id ver off len hlt hver hv =>
    refine .sl v id ver off len (e.nxle _ hlt) (fun B' hB' => ?_) (fun B' hB' hv' => ?_)
    · obtain ⟨B, hB, h1, _⟩ := e.ids id B' hlt hB'
      exact Nat.le_trans (hver B hB) h1
    · obtain ⟨B, hB, h1, h2⟩ := e.ids id B' hlt hB'
      have := hver B hB
      obtain ⟨e1, e2, e3⟩ := h2 (by omega)
      obtain ⟨p1, p2⟩ := hv B hB (by omega)
      exact ⟨by omega, by rw [e1, e2]; exact p2⟩
  | agg vs cs hl hr ih => exact .agg vs cs hl ih
  | tup vs cs hl hr ih => exact .tup vs cs hl ih
  | fn f vs cs hl hr ih => exact .fn f vs cs hl ih

theorem flatten_at {α : Type} (s : Nat) : ∀ (es : List (List α)), (∀ e ∈ es, e.length = s) → ∀ (i j : Nat), j < s → es.flatten[i * s + j]? = (es[i]?).bind (·[j]?)
  | [], _, i, j, _ => by simp
  | e :: es, hs, 0, j, hj => by
    have he := hs e (by simp)
    simp [List.flatten_cons, List.getElem?_append, he, hj]
  | e :: es, hs, i + 1, j, hj => by
    have he := hs e (by simp)
    have ih := flatten_at s es (fun e' h' => hs e' (by simp [h'])) i j hj
    have h1 : ¬ (i + 1) * s + j < e.length := by rw [he, Nat.add_mul]; omega
    have h2 : (i + 1) * s + j - e.length = i * s + j := by rw [he, Nat.add_mul]; omega
    simp only [List.flatten_cons, List.getElem?_append, if_neg h1, h2, List.getElem?_cons_succ]
    exact ih

theorem flatten_len {α : Type} (s : Nat) : ∀ (es : List (List α)), (∀ e ∈ es, e.length = s) → es.flatten.length = es.length * s
  | [], _ => by simp
  | e :: es, hs => by
    simp [List.flatten_cons, hs e (by simp), flatten_len s es (fun e' h' => hs e' (by simp [h'])), Nat.add_mul, Nat.add_comm]

end Go.Proofs.YtepahgbgijmipaaEv
