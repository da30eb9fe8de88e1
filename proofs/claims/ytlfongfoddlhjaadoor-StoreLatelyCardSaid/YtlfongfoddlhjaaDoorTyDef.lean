/- Types as trees, and how a tree lies in memory. -/
import Derived.Test.YtlfongfoddlhjaaDoorKeys
namespace Go.Lod
open Go Go.RowKit

/-- a type, or nil -/
inductive Ty where
  | nil
  | mk (kind : Int) (name : ByteArray) (names : List ByteArray) (args : List Ty) (ret : Ty)

/-- Of the blocks that were there, only such ones have turned as 'own' says. -/
structure Kept (own : Nat → Prop) (w w' : World) : Prop where
  os : w'.os = w.os
  tape : w'.tape = w.tape
  output : w'.output = w.output
  size : w.heap.size ≤ w'.heap.size
  block : ∀ k, k < w.heap.size → ¬ own k → w'.heap[k]? = w.heap[k]?

theorem Kept.refl (own : Nat → Prop) (w : World) : Kept own w w := ⟨rfl, rfl, rfl, Nat.le_refl _, fun _ _ _ => rfl⟩
theorem Kept.trans {own own' : Nat → Prop} {a b c : World} (h : Kept own a b) (k : Kept own' b c) (ho : ∀ i, own' i → own i ∨ a.heap.size ≤ i) : Kept own a c :=
  ⟨k.os.trans h.os, k.tape.trans h.tape, k.output.trans h.output, Nat.le_trans h.size k.size, fun i hi hn =>
    (k.block i (Nat.lt_of_lt_of_le hi h.size) (fun h' => (ho i h').elim hn (fun h'' => by omega))).trans (h.block i hi hn)⟩
theorem Kept.mono {own own' : Nat → Prop} {a b : World} (h : Kept own a b) (ho : ∀ i, own i → own' i) : Kept own' a b :=
  ⟨h.os, h.tape, h.output, h.size, fun i hi hn => h.block i hi fun h' => hn (ho i h')⟩
theorem Kept.of_below {own : Nat → Prop} {a b : World} (h : Below a.heap.size a b) : Kept own a b :=
  ⟨h.os, h.tape, h.output, h.size, fun i hi _ => h.block i hi⟩
theorem Kept.below {own : Nat → Prop} {a b : World} {B : Nat} (h : Kept own a b) (hB : B ≤ a.heap.size) (ho : ∀ i, own i → B ≤ i) : Below B a b :=
  ⟨h.os, h.tape, h.output, h.size, fun i hi => h.block i (Nat.lt_of_lt_of_le hi hB) fun h' => by have := ho i h'; omega⟩
theorem Kept.drew {own : Nat → Prop} {a b : World} (h : Kept own a b) : Kept own a b.drew := ⟨h.os, h.tape, h.output, h.size, h.block⟩
theorem Kept.heap {own : Nat → Prop} {a b : World} (h : Kept own a b) {i : Nat} {o : Obj} (hn : ¬ own i) (hi : a.heap[i]? = some o) : b.heap[i]? = some o := by
  rw [h.block i (lt_of_block hi) hn]; exact hi
theorem Kept.alloc {own : Nat → Prop} {a b : World} (h : Kept own a b) (o : Obj) : Kept own a (b.alloc o) :=
  h.trans (Kept.of_below ((Below.refl _ b).alloc (Nat.le_refl _) o)) (own' := fun _ => False) (fun _ h => h.elim)
theorem Kept.setCell {own : Nat → Prop} {a b : World} (h : Kept own a b) {p : Addr} (hp : own p.block ∨ a.heap.size ≤ p.block) (u : Value) : Kept own a (b.setCell p u) := by
  refine h.trans (own' := fun i => i = p.block) ⟨rfl, rfl, rfl, by simp, fun k hk hn => Below.heap_setCell _ _ _ _ (by simpa using hn)⟩ ?_
  rintro i rfl; exact hp

/-- A slice that reads as a list. -/
def SlAt (w : World) (S : Nat → Prop) (T : TypeId) (v : Value) (xs : List Value) : Prop :=
  (xs = [] ∧ ∃ a c, v = .slice a 0 c) ∨
  ∃ b off c cur fz, v = .slice (some ⟨b, off, none⟩) xs.length c ∧ xs.length ≤ c ∧ S b ∧ w.heap[b]? = some (.cells cur T fz) ∧ ∀ (i : Nat) x, xs[i]? = some x → cur[off + i]? = some x

theorem SlAt.kept {w w' : World} {S S' : Nat → Prop} {T : TypeId} {v : Value} {xs : List Value} (h : SlAt w S T v xs)
    (hk : ∀ k o, S k → w.heap[k]? = some o → w'.heap[k]? = some o ∧ S' k) : SlAt w' S' T v xs := by
  rcases h with h | ⟨b, off, c, cur, fz, h1, h2, h3, h4, h5⟩
  · exact .inl h
  · exact .inr ⟨b, off, c, cur, fz, h1, h2, (hk _ _ h3 h4).2, (hk _ _ h3 h4).1, h5⟩

theorem SlAt.cell {w : World} {S : Nat → Prop} {T : TypeId} {b off n c : Nat} {xs : List Value} (h : SlAt w S T (.slice (some ⟨b, off, none⟩) n c) xs) {i : Nat} {x : Value} (hx : xs[i]? = some x) :
    w.cell? ⟨b, off + i, none⟩ = some x := by
  rcases h with ⟨rfl, _⟩ | ⟨b', off', c', cur, fz, h1, h2, h3, h4, h5⟩
  · simp at hx
  · simp only [Value.slice.injEq, Option.some.injEq, Addr.mk.injEq] at h1
    obtain ⟨⟨rfl, rfl, _⟩, rfl, rfl⟩ := h1
    simp [World.cell?, h4, h5 i x hx]

mutual
/-- A tree lies in memory, in blocks of S. -/
def TyAt (w : World) (S : Nat → Prop) : Ty → Value → Prop
  | .nil, v => v = .pointer none
  | .mk k nm ns gs r, v => ∃ b nv av rv, v = .pointer (some ⟨b, 0, none⟩) ∧ S b ∧
      w.heap[b]? = some (.cells #[.int .i64 k, .string nm, nv, av, rv] 43 (0, 0)) ∧
      SlAt w S 9 nv (ns.map .string) ∧ (∃ ps, SlAt w S 33 av ps ∧ TysAt w S gs ps) ∧ TyAt w S r rv
def TysAt (w : World) (S : Nat → Prop) : List Ty → List Value → Prop
  | [], ps => ps = []
  | t :: ts, ps => ∃ p qs, ps = p :: qs ∧ TyAt w S t p ∧ TysAt w S ts qs
end

mutual
theorem TyAt.kept {w w' : World} {S S' : Nat → Prop} (hk : ∀ k o, S k → w.heap[k]? = some o → w'.heap[k]? = some o ∧ S' k) : ∀ (T : Ty) (v : Value), TyAt w S T v → TyAt w' S' T v
  | .nil, v, h => h
  | .mk k nm ns gs r, v, h => by
    obtain ⟨b, nv, av, rv, h1, h2, h3, h4, ⟨ps, h5, h6⟩, h7⟩ := h
    exact ⟨b, nv, av, rv, h1, (hk _ _ h2 h3).2, (hk _ _ h2 h3).1, h4.kept hk, ⟨ps, h5.kept hk, TysAt.kept hk gs ps h6⟩, TyAt.kept hk r rv h7⟩
theorem TysAt.kept {w w' : World} {S S' : Nat → Prop} (hk : ∀ k o, S k → w.heap[k]? = some o → w'.heap[k]? = some o ∧ S' k) : ∀ (ts : List Ty) (ps : List Value), TysAt w S ts ps → TysAt w' S' ts ps
  | [], ps, h => h
  | t :: ts, ps, h => by
    obtain ⟨p, qs, h1, h2, h3⟩ := h
    exact ⟨p, qs, h1, TyAt.kept hk t p h2, TysAt.kept hk ts qs h3⟩
end
theorem TysAt.length {w : World} {S : Nat → Prop} : ∀ (ts : List Ty) (ps : List Value), TysAt w S ts ps → ps.length = ts.length
  | [], ps, h => by rw [show ps = [] from h]; rfl
  | t :: ts, ps, h => by
    obtain ⟨p, qs, rfl, h2, h3⟩ := h
    simp [TysAt.length ts qs h3]
theorem TysAt.get {w : World} {S : Nat → Prop} : ∀ (ts : List Ty) (ps : List Value), TysAt w S ts ps → ∀ (i : Nat) t, ts[i]? = some t → ∃ p, ps[i]? = some p ∧ TyAt w S t p
  | [], ps, h, i, t, ht => by simp at ht
  | t :: ts, ps, h, i, t', ht => by
    obtain ⟨p, qs, rfl, h2, h3⟩ := h
    cases i with
    | zero => simp at ht; subst ht; exact ⟨p, rfl, h2⟩
    | succ i => simpa using TysAt.get ts qs h3 i t' (by simpa using ht)
end Go.Lod
