/- The library's functions that the store's 'lay' meets, in the words of these texts: Clone, Join, a Builder. -/
import Derived.Test.YtlfongfoddlhjaaDoorStW4
import Derived.Test.YtlfongfoddlhjaaDoorShelf
namespace Go.Lod
open Go Go.RowKit

theorem SlAt.form {w : World} {S : Nat → Prop} {T : TypeId} {v : Value} {xs : List Value} (h : SlAt w S T v xs) : ∃ a c, v = .slice a xs.length c := by
  rcases h with ⟨rfl, a, c, h⟩ | ⟨b, off, c, cur, fz, h, _⟩
  · exact ⟨a, c, h⟩
  · exact ⟨_, c, h⟩
theorem SlAt.length {w : World} {S : Nat → Prop} {T : TypeId} {a : Option Addr} {n c : Nat} {xs : List Value} (h : SlAt w S T (.slice a n c) xs) : n = xs.length := by
  rcases h with ⟨rfl, a', c', h⟩ | ⟨b, off, c', cur, fz, h, _⟩
  · simp only [Value.slice.injEq] at h; simp [h.2.1]
  · simp only [Value.slice.injEq] at h; exact h.2.1
end Go.Lod
namespace Go.Proofs.YtlfongfoddlhjaaDoor
open Go Go.RowKit Go.Lod

theorem own_slat {w : World} {base : Nat} {T : TypeId} {v : Value} {n : Nat} {xs : List Value} (h : w.ownsRow base T 1 v n xs) : SlAt w (fun k => base ≤ k) T v xs := by
  obtain ⟨hl, h⟩ := h
  rcases h with ⟨rfl, rfl⟩ | ⟨g, cap, cur, h1, h2, h3, h4, h5, h6, h7⟩
  · exact .inl ⟨List.eq_nil_of_length_eq_zero (by simpa using hl), none, 0, rfl⟩
  · simp only [Nat.mul_one] at hl h7
    refine .inr ⟨g, 0, cap, cur, (0, 0), by rw [h1, hl], by omega, h2, h3, ?_⟩
    intro i x hx
    have := cell_of_take h3 h7 hx
    simp only [World.cell?, h3] at this
    simpa using this

theorem clone_names {w : World} {S : Nat → Prop} {v : Value} {ns : List ByteArray} (h : SlAt w S 9 v (ns.map .string)) (hn : ns.length < 2147483648) :
    Calls Tryd.prog 15 #[v] w fun e w' => ∃ v', e = .returned v' ∧ SlAt w' (fun k => w.heap.size ≤ k) 9 v' (ns.map .string) ∧ Below w.heap.size w w' := by
  rcases h with ⟨h0, a, c, rfl⟩ | ⟨b, off, c, cur, fz, rfl, h2, h3, h4, h5⟩
  · rw [h0]
    cases a with
    | none => exact (Tryd.slices_Clone_string_nil 0 c w).mono fun e w' ⟨he, hw⟩ => ⟨_, he, .inl ⟨rfl, none, 0, rfl⟩, by rw [hw]; exact Below.refl _ _⟩
    | some a => exact (Tryd.slices_Clone_string_zero a c w).mono fun e w' ⟨v', he, ho, _, hb⟩ => ⟨v', he, own_slat ho, hb⟩
  · refine (Tryd.slices_Clone_string b off (ns.map Value.string).length c ns w (by simp) (by simp; omega) ?_).mono fun e w' ⟨v', he, ho, _, hb⟩ => ⟨v', he, ?_, hb⟩
    · intro j hj
      simp only [World.cell?, h4]
      rw [h5 j (.string (ns.getD j ByteArray.empty)) (by simp [hj, List.getD])]
      rfl
    · have := own_slat ho
      simpa using this

theorem join_names {w : World} {S : Nat → Prop} {v : Value} {ns : List ByteArray} (h : SlAt w S 9 v (ns.map .string)) (hn : ns.length < 2147483648)
    (hj : (Lib.join (ns.map (·.data.toList)) [32]).length ≤ 140737488355328) :
    Calls Tryd.prog 24 #[v, .string ⟨#[32]⟩] w fun e w' => e = .returned (.string (fieldsOf ns)) ∧ Below w.heap.size w w' := by
  rcases h with ⟨h0, a, c, rfl⟩ | ⟨b, off, c, cur, fz, rfl, h2, h3, h4, h5⟩
  · have hns : ns = [] := by simpa using h0
    subst hns
    exact (Tryd.strings_Join_none a c ⟨#[32]⟩ w).mono fun e w' ⟨he, hw⟩ => ⟨he, by rw [hw]; exact Below.refl _ _⟩
  · have := Tryd.strings_Join b off c ns ⟨#[32]⟩ w ?_ (lt_of_block h4) (by omega) (by simpa using h2) hj
    · simpa [fieldsOf] using this
    · intro j x hx
      simp only [World.cell?, h4]
      rw [h5 j (.string x) (by simp [hx])]
      rfl

abbrev BldAt (w : World) (B pb : Nat) (l : List UInt8) : Prop := Lib.IsBuilderF 69 5 B pb (Lib.byteCells l) w

theorem bld_new {w : World} {B : Nat} (hB : B ≤ w.heap.size) : BldAt (w.alloc (.cells #[.pointer none, .slice none 0 0] 69)) B w.heap.size [] :=
  .inl ⟨hB, _, heap_alloc_new w _, ⟨rfl, .inl ⟨rfl, rfl⟩⟩, by simp [Value.ownBlock]⟩

theorem bld_kept {w w' : World} {B pb : Nat} {l : List UInt8} (h : BldAt w B pb l)
    (hk : ∀ (k : Nat) (c : Array Value) (T : TypeId) (fz : Nat × Nat), T = 69 ∨ T = 5 → w.heap[k]? = some (Obj.cells c T fz) → w'.heap[k]? = some (Obj.cells c T fz)) : BldAt w' B pb l := by
  have : ∀ p, Lib.BuilderAtF 69 5 B pb p (Lib.byteCells l) w → Lib.BuilderAtF 69 5 B pb p (Lib.byteCells l) w' := by
    rintro p ⟨hB, v, hb, ⟨ho1, ho2⟩, hne⟩
    refine ⟨hB, v, hk _ _ _ _ (.inl rfl) hb, ⟨ho1, ?_⟩, hne⟩
    rcases ho2 with ho2 | ⟨g, cap, cur, fz, h1, h2, h3, h4⟩
    · exact .inl ho2
    · exact .inr ⟨g, cap, cur, fz, h1, h2, hk _ _ _ _ (.inr rfl) h3, h4⟩
  rcases h with h | h
  · exact .inl (this _ h)
  · exact .inr (this _ h)

theorem bld_lt {w : World} {B pb : Nat} {l : List UInt8} (h : BldAt w B pb l) : ∃ c, w.heap[pb]? = some (Obj.cells c 69 (0, 0)) := by
  rcases h with ⟨_, v, hb, _⟩ | ⟨_, v, hb, _⟩
  · exact ⟨_, hb⟩
  · exact ⟨_, hb⟩

theorem strCells_bytes (s : ByteArray) : Lib.strCells s = Lib.byteCells s.data.toList := rfl

theorem write_calls {w : World} {B pb : Nat} {l : List UInt8} (h : BldAt w B pb l) (s : ByteArray) (hlen : l.length + s.size ≤ 140737488355328) (hB : B ≤ w.heap.size) :
    Calls Tryd.prog 22 #[.pointer (some ⟨pb, 0, none⟩), .string s] w fun e w' => e = .returned (.tuple #[.int .i64 s.size, .nilIface]) ∧ BldAt w' B pb (l ++ s.data.toList) ∧ Below B w w' ∧ Lib.OthersKept 5 (some pb) w w' := by
  refine (Any.Builder_WriteString_k Tryd.lays166 Tryd.Builder_Extra_156 B pb (Lib.byteCells l) s w h (by rw [Lib.byteCells_length]; exact hlen) hB).mono ?_
  rintro e w' ⟨he, hb, h1, h2⟩
  refine ⟨he, .inr ?_, h1, h2⟩
  rw [strCells_bytes] at hb
  have e1 : Lib.byteCells l ++ Lib.byteCells s.data.toList = Lib.byteCells (l ++ s.data.toList) := by simp [Lib.byteCells]
  rw [e1] at hb
  exact hb

theorem string_calls {w : World} {B pb : Nat} {l : List UInt8} (h : BldAt w B pb l) (hB : B ≤ w.heap.size) :
    Calls Tryd.prog 25 #[.pointer (some ⟨pb, 0, none⟩)] w fun e w' => e = .returned (.string ⟨l.toArray⟩) ∧ BldAt w' B pb l ∧ Below B w w' ∧ Lib.OthersKept 5 (some pb) w w' :=
  (Tryd.Builder_String_any_k B pb l w h hB).mono fun _ _ ⟨he, hb, h1, h2⟩ => ⟨he, hb, h1, h2⟩
end Go.Proofs.YtlfongfoddlhjaaDoor
