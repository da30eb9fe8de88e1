/- IndexFunc, ContainsFunc: nothing is found. -/
import Derived.Test.YtlfongfoddlhjaaDoorTyW2
import Derived.Test.YtlfongfoddlhjaaDoorMade
namespace Go.Proofs.YtlfongfoddlhjaaDoor
open Go Go.RowKit Go.Lod
set_option maxRecDepth 100000

theorem slAt_below {w W : World} {S : Nat → Prop} {T : TypeId} {v : Value} {xs : List Value} (h : SlAt w S T v xs) (hB : Below w.heap.size w W) : SlAt W S T v xs :=
  h.kept fun k o hk ho => ⟨by rw [hB.block k (lt_of_block ho)]; exact ho, hk⟩

theorem slAt_cell {w : World} {S : Nat → Prop} {T : TypeId} {a : Option Addr} {n c : Nat} {xs : List Value} (h : SlAt w S T (.slice a n c) xs) {j : Nat} {p : Value} (hp : xs[j]? = some p) :
    ∃ ab aoff, a = some ⟨ab, aoff, none⟩ ∧ w.cell? ⟨ab, aoff + j, none⟩ = some p := by
  rcases h with ⟨h0, _⟩ | ⟨ab, aoff, c, cur, fz, h1, h2, h3, h4, h5⟩
  · rw [h0] at hp; simp at hp
  · simp only [Value.slice.injEq] at h1
    refine ⟨ab, aoff, h1.1, ?_⟩
    rw [cellq h4]
    exact h5 j p hp

theorem index_none_p (g : Nat) (hent : ∀ args w, (callFunc g args).run Tryd.prog w = .ok (.enter g args) w) {w : World} {S : Nat → Prop} {v : Value} {xs : List Value} (h : SlAt w S 33 v xs) (hn : xs.length < 2147483648)
    (hp : ∀ (j : Nat) x W, xs[j]? = some x → Below w.heap.size w W → Calls Tryd.prog g #[x] W fun e w' => e = .returned (.bool false) ∧ Below W.heap.size W w') :
    Calls Tryd.prog 45 #[v, .func (.func g) #[] #[]] w fun e w' => e = .returned (.int .i64 (-1)) ∧ Below w.heap.size w w' := by
  obtain ⟨a, c, rfl⟩ := h.form
  go_enter Tryd.func45, Tryd.ntmps45
  go_wp2
  go_loopw [8] (fun i W => ∃ j : Nat, i = .int .i64 j ∧ j ≤ xs.length ∧ Below w.heap.size w W) (fun i _ => xs.length - (intOf i).toNat)
  case atStart => exact ⟨0, rfl, Nat.zero_le _, Below.refl _ _⟩
  case round =>
    obtain ⟨j, rfl, hj, hB⟩ := hrel
    by_cases hlt : j < xs.length
    · obtain ⟨x, hx⟩ : ∃ x, xs[j]? = some x := ⟨_, List.getElem?_eq_getElem hlt⟩
      obtain ⟨ab, aoff, rfl, hcell⟩ := slAt_cell (slAt_below h hB) hx
      have hcall := hp j x wr hx hB
      have HB := Lib.hid hB
      clear hp hx h hB
      go_wp2_with (go_at_fn g; refine hcall.mono ?_; clear hcall; rintro e w2 ⟨rfl, hB2⟩)
      go_roundw
      case rel => exact ⟨j + 1, by go_num, by omega, HB.out.trans (hB2.mono HB.out.size)⟩
      case measure => simp [intOf]; omega
    · obtain rfl : j = xs.length := by omega
      go_wp2
      go_ret
      exact ⟨rfl, hB⟩
theorem index_none_s (g : Nat) (hent : ∀ args w, (callFunc g args).run Tryd.prog w = .ok (.enter g args) w) {w : World} {S : Nat → Prop} {v : Value} {xs : List Value} (h : SlAt w S 9 v xs) (hn : xs.length < 2147483648)
    (hp : ∀ (j : Nat) x W, xs[j]? = some x → Below w.heap.size w W → Calls Tryd.prog g #[x] W fun e w' => e = .returned (.bool false) ∧ Below W.heap.size W w') :
    Calls Tryd.prog 47 #[v, .func (.func g) #[] #[]] w fun e w' => e = .returned (.int .i64 (-1)) ∧ Below w.heap.size w w' := by
  obtain ⟨a, c, rfl⟩ := h.form
  go_enter Tryd.func47, Tryd.ntmps47
  go_wp2
  go_loopw [8] (fun i W => ∃ j : Nat, i = .int .i64 j ∧ j ≤ xs.length ∧ Below w.heap.size w W) (fun i _ => xs.length - (intOf i).toNat)
  case atStart => exact ⟨0, rfl, Nat.zero_le _, Below.refl _ _⟩
  case round =>
    obtain ⟨j, rfl, hj, hB⟩ := hrel
    by_cases hlt : j < xs.length
    · obtain ⟨x, hx⟩ : ∃ x, xs[j]? = some x := ⟨_, List.getElem?_eq_getElem hlt⟩
      obtain ⟨ab, aoff, rfl, hcell⟩ := slAt_cell (slAt_below h hB) hx
      have hcall := hp j x wr hx hB
      have HB := Lib.hid hB
      clear hp hx h hB
      go_wp2_with (go_at_fn g; refine hcall.mono ?_; clear hcall; rintro e w2 ⟨rfl, hB2⟩)
      go_roundw
      case rel => exact ⟨j + 1, by go_num, by omega, HB.out.trans (hB2.mono HB.out.size)⟩
      case measure => simp [intOf]; omega
    · obtain rfl : j = xs.length := by omega
      go_wp2
      go_ret
      exact ⟨rfl, hB⟩

theorem contains_none_p (g : Nat) (hent : ∀ args w, (callFunc g args).run Tryd.prog w = .ok (.enter g args) w) {w : World} {S : Nat → Prop} {v : Value} {xs : List Value} (h : SlAt w S 33 v xs) (hn : xs.length < 2147483648)
    (hp : ∀ (j : Nat) x W, xs[j]? = some x → Below w.heap.size w W → Calls Tryd.prog g #[x] W fun e w' => e = .returned (.bool false) ∧ Below W.heap.size W w') :
    Calls Tryd.prog 31 #[v, .func (.func g) #[] #[]] w fun e w' => e = .returned (.bool false) ∧ Below w.heap.size w w' := by
  have hc := index_none_p g hent h hn hp
  obtain ⟨a, c, rfl⟩ := h.form
  clear hp h
  go_enter Tryd.func31, Tryd.ntmps31
  go_wp2_with (go_at_call 45; refine hc.mono ?_; clear hc; rintro e w2 ⟨rfl, hB⟩)
  go_ret
  exact ⟨rfl, hB⟩

theorem contains_none_s (g : Nat) (hent : ∀ args w, (callFunc g args).run Tryd.prog w = .ok (.enter g args) w) {w : World} {S : Nat → Prop} {v : Value} {xs : List Value} (h : SlAt w S 9 v xs) (hn : xs.length < 2147483648)
    (hp : ∀ (j : Nat) x W, xs[j]? = some x → Below w.heap.size w W → Calls Tryd.prog g #[x] W fun e w' => e = .returned (.bool false) ∧ Below W.heap.size W w') :
    Calls Tryd.prog 33 #[v, .func (.func g) #[] #[]] w fun e w' => e = .returned (.bool false) ∧ Below w.heap.size w w' := by
  have hc := index_none_s g hent h hn hp
  obtain ⟨a, c, rfl⟩ := h.form
  clear hp h
  go_enter Tryd.func33, Tryd.ntmps33
  go_wp2_with (go_at_call 47; refine hc.mono ?_; clear hc; rintro e w2 ⟨rfl, hB⟩)
  go_ret
  exact ⟨rfl, hB⟩
end Go.Proofs.YtlfongfoddlhjaaDoor
