/- 'for k, v := range m' over a map that stands: one step, in worlds. -/
import Derived.Test.YtlfongfoddlhjaaDoorBase
import Derived.Lib.Hide
namespace Go.Lod
open Go Go.RowKit
open Go.ChangeMaps (setBlock)

section
variable {α β : Type} {enc : α → Value} {encV : β → Value}

def leftN (l : List (α × β × Nat)) (seen : Array Nat) : Nat := (l.filter fun p => !seen.contains p.2.2).length

def iterLeft (l : List (α × β × Nat)) (r : Nat) (w : World) : Nat :=
  match w.heap[r]? with
  | some (.mapIter _ _ seen _) => leftN l seen
  | _ => 0
theorem iterLeft_at {l : List (α × β × Nat)} {r : Nat} {w : World} {m : Option Nat} {since c0 : Nat} {seen : Array Nat} (h : w.heap[r]? = some (.mapIter m since seen c0)) : iterLeft l r w = leftN l seen := by
  unfold iterLeft; rw [h]

theorem contains_push (seen : Array Nat) (x y : Nat) : (seen.push x).contains y = (seen.contains y || x == y) := by
  rw [Bool.eq_iff_iff]
  simp only [Array.contains_iff_mem, Array.mem_push, Bool.or_eq_true, beq_iff_eq]
  constructor
  · rintro (h | h)
    · exact .inl h
    · exact .inr h.symm
  · rintro (h | h)
    · exact .inl h
    · exact .inr h.symm

theorem filter_lt {γ : Type} {f g : γ → Bool} (h : ∀ x, g x = true → f x = true) (l : List γ) {p : γ} (hp : p ∈ l) (hf : f p = true) (hg : g p = false) : (l.filter g).length < (l.filter f).length := by
  have e : l.filter g = (l.filter f).filter g := by
    rw [List.filter_filter]
    refine List.filter_congr fun x _ => ?_
    cases hx : g x with
    | false => rfl
    | true => rw [h x hx]; rfl
  rw [e]
  exact List.length_filter_lt_length_iff_exists.2 ⟨p, List.mem_filter.2 ⟨hp, hf⟩, by simp [hg]⟩

theorem leftN_push {l : List (α × β × Nat)} {seen : Array Nat} {p : α × β × Nat} (hp : p ∈ l) (hs : seen.contains p.2.2 = false) : leftN l (seen.push p.2.2) < leftN l seen := by
  unfold leftN
  refine filter_lt ?_ l hp (by rw [hs]; rfl) (by rw [contains_push]; simp)
  intro x hx
  rw [contains_push] at hx
  cases h : seen.contains x.2.2 with
  | false => rfl
  | true => rw [h] at hx; simp at hx

theorem left_mem {l : List (α × β × Nat)} {seen : Array Nat} {e : MapEntry} (h : e ∈ (leftOf (mEs enc encV l) seen).toList) :
    ∃ p ∈ l, e = { key := enc p.1, val := encV p.2.1, born := p.2.2 } ∧ seen.contains p.2.2 = false := by
  obtain ⟨h1, h2⟩ := mem_left h
  rw [mEs_toList] at h1
  obtain ⟨p, hp, rfl⟩ := List.mem_map.1 h1
  exact ⟨p, hp, rfl, h2⟩

theorem left_size (l : List (α × β × Nat)) (seen : Array Nat) : (leftOf (mEs enc encV l) seen).size = leftN l seen := by
  unfold leftOf leftN mEs mEl
  rw [← Array.length_toList, Array.toList_filter]
  simp only [List.filter_map, List.length_map]
  rfl

/-- One step: nothing is left, or one that is left comes out. -/
theorem next_at {P : Program} {w : World} (ty : TypeId) {r bm since c0 clk : Nat} {seen : Array Nat} {l : List (α × β × Nat)}
    (hr : w.heap[r]? = some (.mapIter (some bm) since seen c0)) (hb : w.heap[bm]? = some (.map (mEs enc encV l) clk)) (hold : ∀ p ∈ l, p.2.2 < since) (hsc : since ≤ c0) :
    (leftN l seen = 0 ∧ (Instr.next (.pointer (some ⟨r, 0, none⟩)) false ty).run P w = .ok (.tuple #[.bool false]) w) ∨
    ∃ p ∈ l, seen.contains p.2.2 = false ∧ ∃ W : World, (Instr.next (.pointer (some ⟨r, 0, none⟩)) false ty).run P w = .ok (.tuple #[.bool true, enc p.1, encV p.2.1]) W ∧
      W.heap[r]? = some (.mapIter (some bm) since (seen.push p.2.2) clk) ∧ (∀ k, k ≠ r → W.heap[k]? = w.heap[k]?) ∧ W.heap.size = w.heap.size ∧ W.os = w.os ∧ W.tape = w.tape ∧ W.output = w.output := by
  have hlt := lt_of_block hr
  rcases run_next_at (P := P) w ty r bm since c0 seen (mEs enc encV l) clk hr hb (by rw [mEs_toList]; intro x hx; obtain ⟨p, hp, rfl⟩ := List.mem_map.1 hx; exact hold p hp) hsc with ⟨h1, h2⟩ | ⟨e, he, w1, hw1, h2⟩
  · exact .inl ⟨by rw [← left_size (enc := enc) (encV := encV)]; exact h1, h2⟩
  · obtain ⟨p, hp, rfl, hs⟩ := left_mem he
    refine .inr ⟨p, hp, hs, _, h2, ?_, ?_, ?_, ?_⟩
    · rcases hw1 with rfl | rfl
      · simp [setBlock, hlt]
      · simp [setBlock, hlt]
    · intro k hk
      rcases hw1 with rfl | rfl
      · simp only [setBlock, Array.getElem?_setIfInBounds]; rw [if_neg (Ne.symm hk)]
      · simp only [setBlock, Array.getElem?_setIfInBounds]; rw [if_neg (Ne.symm hk)]; rfl
    · rcases hw1 with rfl | rfl <;> simp [setBlock]
    · rcases hw1 with rfl | rfl <;> exact ⟨rfl, rfl, rfl⟩

theorem entry_at {P : Program} {w : World} {r bm since clk : Nat} {seen : Array Nat} {l : List (α × β × Nat)} {p : α × β × Nat}
    (hr : w.heap[r]? = some (.mapIter (some bm) since (seen.push p.2.2) clk)) (hb : w.heap[bm]? = some (.map (mEs enc encV l) clk)) (hp : p ∈ l) (hn : (l.map (·.2.2)).Nodup) :
    (Instr.entry (.pointer (some ⟨r, 0, none⟩))).run P w = .ok (.tuple #[enc p.1, encV p.2.1]) w := by
  refine run_entry_at (P := P) w r bm since seen (mEs enc encV l) clk { key := enc p.1, val := encV p.2.1, born := p.2.2 } hr hb ?_ ?_
  · rw [mEs_toList]; exact List.mem_map.2 ⟨p, hp, rfl⟩
  · rw [mEs_toList, mEl, List.map_map]; exact hn

end
end Go.Lod
