/- rising: a list whose texts rise. -/
import Derived.Test.YtlfongfoddlhjaaDoorTyW3
import Derived.Deep.DeepCutAuto
import Derived.Deep.RegionWith
namespace Go.Proofs.YtlfongfoddlhjaaDoor
open Go Go.RowKit Go.Lod
set_option maxRecDepth 100000

/-- the texts of the things of a list, by the function g -/
def TxtOf (g : Nat) (xs : List Value) (ts : List ByteArray) (w : World) : Prop :=
  ∀ (j : Nat) x t W, xs[j]? = some x → ts[j]? = some t → Below w.heap.size w W → Calls Tryd.prog g #[x] W fun e w' => e = .returned (.string t) ∧ Below W.heap.size W w'

theorem cmp_s (g : Nat) (hent : ∀ args w, (callFunc g args).run Tryd.prog w = .ok (.enter g args) w) {x y : Value} {s t : ByteArray} {b : Nat} {w : World} (hb : w.heap[b]? = some (.cells #[.func (.func g) #[] #[]] 88 (0, 0)))
    (hx : ∀ W, Below w.heap.size w W → Calls Tryd.prog g #[x] W fun e w' => e = .returned (.string s) ∧ Below W.heap.size W w') (hy : ∀ W, Below w.heap.size w W → Calls Tryd.prog g #[y] W fun e w' => e = .returned (.string t) ∧ Below W.heap.size W w')
    (hlt : Op.bytesLess s.toList t.toList = false) :
    Calls Tryd.prog 50 #[x, y, .pointer (some ⟨b, 0, none⟩)] w fun e w' => e = .returned (.int .i64 1) ∧ Below w.heap.size w w' := by
  have hc : ∀ W, Below w.heap.size w W → W.cell? ⟨b, 0, none⟩ = some (.func (.func g) #[] #[]) := fun W hB => by rw [cellq (by rw [hB.block b (lt_of_block hb)]; exact hb)]; rfl
  have c0 := hc w (Below.refl _ _)
  go_enter Tryd.func50, Tryd.ntmps50
  go_wp2
  have d0 := hc w.drew ((Below.refl _ _).drew)
  go_region_held3 (fun W => W.cell? ⟨b, 0, none⟩ = some (.func (.func g) #[] #[]))
    (first | exact d0 | exact k0 | exact m0)
    ((first | (go_at_fn g; refine (hx _ ((Below.refl _ _).drew)).mono ?_; clear hx; rintro e w1 ⟨rfl, hB1⟩; have hB1' := ((Below.refl w.heap.size w).drew).trans hB1; have k0 := hc _ hB1') | (go_at_fn g; refine (hy _ hB1').mono ?_; clear hy; rintro e w2 ⟨rfl, hB2⟩; have hB2' := hB1'.trans (hB2.mono hB1'.size); have m0 := hc _ hB2')))
  go_wp2
  go_ret
  exact ⟨rfl, hB2'⟩

theorem eq_s (g : Nat) (hent : ∀ args w, (callFunc g args).run Tryd.prog w = .ok (.enter g args) w) {x y : Value} {s t : ByteArray} {b : Nat} {w : World} (hb : w.heap[b]? = some (.cells #[.func (.func g) #[] #[]] 88 (0, 0)))
    (hx : ∀ W, Below w.heap.size w W → Calls Tryd.prog g #[x] W fun e w' => e = .returned (.string s) ∧ Below W.heap.size W w') (hy : ∀ W, Below w.heap.size w W → Calls Tryd.prog g #[y] W fun e w' => e = .returned (.string t) ∧ Below W.heap.size W w')
    (hne : s ≠ t) :
    Calls Tryd.prog 52 #[x, y, .pointer (some ⟨b, 0, none⟩)] w fun e w' => e = .returned (.bool false) ∧ Below w.heap.size w w' := by
  have hc : ∀ W, Below w.heap.size w W → W.cell? ⟨b, 0, none⟩ = some (.func (.func g) #[] #[]) := fun W hB => by rw [cellq (by rw [hB.block b (lt_of_block hb)]; exact hb)]; rfl
  have c0 := hc w (Below.refl _ _)
  go_enter Tryd.func52, Tryd.ntmps52
  go_wp2
  have d0 := hc w.drew ((Below.refl _ _).drew)
  go_region_held3 (fun W => W.cell? ⟨b, 0, none⟩ = some (.func (.func g) #[] #[]))
    (first | exact d0 | exact k0 | exact m0)
    ((first | (go_at_fn g; refine (hx _ ((Below.refl _ _).drew)).mono ?_; clear hx; rintro e w1 ⟨rfl, hB1⟩; have hB1' := ((Below.refl w.heap.size w).drew).trans hB1; have k0 := hc _ hB1') | (go_at_fn g; refine (hy _ hB1').mono ?_; clear hy; rintro e w2 ⟨rfl, hB2⟩; have hB2' := hB1'.trans (hB2.mono hB1'.size); have m0 := hc _ hB2')))
  go_wp2
  go_ret
  refine ⟨?_, hB2'⟩
  show Ending.returned (.bool (s.toList == t.toList)) = _
  rw [beq_eq_false_iff_ne.2 (fun h => hne (by rw [← Lib.mk_data s, ← Lib.mk_data t, ← Lib.toList_data, ← Lib.toList_data, h]))]

/-- the texts rise -/
def Rises (ts : List ByteArray) : Prop := ∀ (i : Nat) s t, ts[i]? = some s → ts[i + 1]? = some t → Op.bytesLess t.toList s.toList = false ∧ t ≠ s

theorem sorted_s (g : Nat) (hent : ∀ args w, (callFunc g args).run Tryd.prog w = .ok (.enter g args) w) {w : World} {S : Nat → Prop} {v : Value} {xs : List Value} {ts : List ByteArray} (h : SlAt w S 9 v xs) (hn : xs.length < 2147483648) (hl : ts.length = xs.length)
    {b : Nat} (hb : w.heap[b]? = some (.cells #[.func (.func g) #[] #[]] 88 (0, 0))) (ht : TxtOf g xs ts w) (hr : Rises ts) :
    Calls Tryd.prog 49 #[v, .func (.func 50) #[] #[.pointer (some ⟨b, 0, none⟩)]] w fun e w' => e = .returned (.bool true) ∧ Below w.heap.size w w' := by
  obtain ⟨a, c, rfl⟩ := h.form
  by_cases h0 : xs.length = 0
  · rw [h0]
    clear h ht hr
    go_enter Tryd.func49, Tryd.ntmps49
    go_wp2
    go_loopw [5] (fun i W => i = .int .i64 (-1) ∧ W = w) (fun _ _ => 0)
    case atStart => exact ⟨rfl, rfl⟩
    case round =>
      obtain ⟨rfl, rfl⟩ := hrel
      go_wp2
      go_ret
      exact ⟨rfl, Below.refl _ _⟩
  · go_enter Tryd.func49, Tryd.ntmps49
    have hsub : ((xs.length : Int) - 1) = ((xs.length - 1 : Nat) : Int) := by omega
    go_wp2
    go_loopw [5] (fun i W => ∃ j : Nat, i = .int .i64 j ∧ j < xs.length ∧ Below w.heap.size w W) (fun i _ => (intOf i).toNat)
    case atStart => exact ⟨xs.length - 1, rfl, by omega, Below.refl _ _⟩
    case round =>
      obtain ⟨j, rfl, hj, hB⟩ := hrel
      by_cases hpos : 0 < j
      · obtain ⟨x, hx⟩ : ∃ x, xs[j]? = some x := ⟨_, List.getElem?_eq_getElem hj⟩
        obtain ⟨y, hy⟩ : ∃ y, xs[j - 1]? = some y := ⟨_, List.getElem?_eq_getElem (by omega)⟩
        obtain ⟨s, hs⟩ : ∃ s, ts[j]? = some s := ⟨_, List.getElem?_eq_getElem (by omega)⟩
        obtain ⟨t, ht'⟩ : ∃ t, ts[j - 1]? = some t := ⟨_, List.getElem?_eq_getElem (by omega)⟩
        have hrr := hr (j - 1) t s ht' (by rw [Nat.sub_add_cancel hpos]; exact hs)
        obtain ⟨ab, aoff, rfl, hcx⟩ := slAt_cell (slAt_below h hB) hx
        obtain ⟨ab', aoff', he, hcy⟩ := slAt_cell (slAt_below h hB) hy
        simp only [Option.some.injEq, Addr.mk.injEq, and_true] at he
        obtain ⟨rfl, rfl⟩ := he
        have hbr : wr.drew.heap[b]? = some (.cells #[.func (.func g) #[] #[]] 88 (0, 0)) := by
          show wr.heap[b]? = _
          rw [hB.block b (lt_of_block hb)]; exact hb
        have hBd := hB.drew
        have hcall := cmp_s g hent hbr (fun W hW => ht j x s W hx hs (hBd.trans (hW.mono hBd.size))) (fun W hW => ht (j - 1) y t W hy ht' (hBd.trans (hW.mono hBd.size))) hrr.1
        have hwr : IntKind.i64.wrap ((j : Int) - 1) = ((j - 1 : Nat) : Int) := by
          rw [IntKind.wrap_i64]
          omega
        have hj1 : j - 1 < xs.length := by omega
        have HB := Lib.hid hBd
        have HS := Lib.hid h
        have HX := Lib.hid hx
        have HY := Lib.hid hy
        clear ht hr hx hy hs ht' h hB hbr hb hrr hBd hsub
        have dx : wr.drew.cell? ⟨ab, aoff + j, none⟩ = some x := hcx
        have dy : wr.drew.cell? ⟨ab, aoff + (j - 1), none⟩ = some y := hcy
        have hcc : ∀ W, Below w.heap.size w W → W.cell? ⟨ab, aoff + j, none⟩ = some x ∧ W.cell? ⟨ab, aoff + (j - 1), none⟩ = some y := fun W hW => by
          obtain ⟨a1, a2, e1, e2⟩ := slAt_cell (slAt_below HS.out hW) HX.out
          obtain ⟨b1, b2, e3, e4⟩ := slAt_cell (slAt_below HS.out hW) HY.out
          simp only [Option.some.injEq, Addr.mk.injEq, and_true] at e1 e3
          obtain ⟨rfl, rfl⟩ := e1
          obtain ⟨rfl, rfl⟩ := e3
          exact ⟨e2, e4⟩
        go_wp2
        go_region_held3 (fun W => W.cell? ⟨ab, aoff + j, none⟩ = some x ∧ W.cell? ⟨ab, aoff + (j - 1), none⟩ = some y)
          (first | (with_reducible exact ⟨dx, dy⟩) | (with_reducible exact m0))
          ((go_at_call 50; refine hcall.mono ?_; clear hcall; rintro e w2 ⟨rfl, hB2⟩; have m0 := hcc w2 (HB.out.trans (hB2.mono HB.out.size))))
        go_wp2
        go_roundw
        case rel => exact ⟨j - 1, by go_num, by omega, HB.out.trans (hB2.mono HB.out.size)⟩
        case measure => simp [intOf]; omega
      · obtain rfl : j = 0 := by omega
        go_wp2
        go_ret
        exact ⟨rfl, hB⟩

theorem compact_s (g : Nat) (hent : ∀ args w, (callFunc g args).run Tryd.prog w = .ok (.enter g args) w) {w : World} {S : Nat → Prop} {v : Value} {xs : List Value} {ts : List ByteArray} (h : SlAt w S 9 v xs) (hn : xs.length < 2147483648) (hl : ts.length = xs.length)
    {b : Nat} (hb : w.heap[b]? = some (.cells #[.func (.func g) #[] #[]] 88 (0, 0))) (ht : TxtOf g xs ts w) (hr : Rises ts) :
    Calls Tryd.prog 51 #[v, .func (.func 52) #[] #[.pointer (some ⟨b, 0, none⟩)]] w fun e w' => e = .returned v ∧ Below w.heap.size w w' := by
  obtain ⟨a, c, rfl⟩ := h.form
  by_cases h0 : xs.length < 2
  · clear h ht hr
    go_enter Tryd.func51, Tryd.ntmps51
    go_wp2
    go_ret
    exact ⟨rfl, Below.refl _ _⟩
  · go_enter Tryd.func51, Tryd.ntmps51
    go_wp2
    go_loopw [5] (fun i W => ∃ j : Nat, i = .int .i64 j ∧ 1 ≤ j ∧ j ≤ xs.length ∧ Below w.heap.size w W) (fun i _ => xs.length - (intOf i).toNat)
    case atStart => exact ⟨1, rfl, by omega, by omega, Below.refl _ _⟩
    case round =>
      obtain ⟨j, rfl, hj1', hj', hB⟩ := hrel
      by_cases hj : j < xs.length
      · obtain ⟨x, hx⟩ : ∃ x, xs[j]? = some x := ⟨_, List.getElem?_eq_getElem hj⟩
        obtain ⟨y, hy⟩ : ∃ y, xs[j - 1]? = some y := ⟨_, List.getElem?_eq_getElem (by omega)⟩
        obtain ⟨s, hs⟩ : ∃ s, ts[j]? = some s := ⟨_, List.getElem?_eq_getElem (by omega)⟩
        obtain ⟨t, ht'⟩ : ∃ t, ts[j - 1]? = some t := ⟨_, List.getElem?_eq_getElem (by omega)⟩
        have hrr := hr (j - 1) t s ht' (by rw [Nat.sub_add_cancel hj1']; exact hs)
        obtain ⟨ab, aoff, rfl, hcx⟩ := slAt_cell (slAt_below h hB) hx
        obtain ⟨ab', aoff', he, hcy⟩ := slAt_cell (slAt_below h hB) hy
        simp only [Option.some.injEq, Addr.mk.injEq, and_true] at he
        obtain ⟨rfl, rfl⟩ := he
        have hbr : wr.drew.heap[b]? = some (.cells #[.func (.func g) #[] #[]] 88 (0, 0)) := by
          show wr.heap[b]? = _
          rw [hB.block b (lt_of_block hb)]; exact hb
        have hBd := hB.drew
        have hcall := eq_s g hent hbr (fun W hW => ht j x s W hx hs (hBd.trans (hW.mono hBd.size))) (fun W hW => ht (j - 1) y t W hy ht' (hBd.trans (hW.mono hBd.size))) hrr.2
        have hwr : IntKind.i64.wrap ((j : Int) - 1) = ((j - 1 : Nat) : Int) := by
          rw [IntKind.wrap_i64]
          omega
        have hj1 : j - 1 < xs.length := by omega
        have HB := Lib.hid hBd
        have HS := Lib.hid h
        have HX := Lib.hid hx
        have HY := Lib.hid hy
        have HJ := Lib.hid hj1'
        clear ht hr hx hy hs ht' h hB hbr hb hrr hBd hj1'
        have dx : wr.drew.cell? ⟨ab, aoff + j, none⟩ = some x := hcx
        have dy : wr.drew.cell? ⟨ab, aoff + (j - 1), none⟩ = some y := hcy
        have hcc : ∀ W, Below w.heap.size w W → W.cell? ⟨ab, aoff + j, none⟩ = some x ∧ W.cell? ⟨ab, aoff + (j - 1), none⟩ = some y := fun W hW => by
          obtain ⟨a1, a2, e1, e2⟩ := slAt_cell (slAt_below HS.out hW) HX.out
          obtain ⟨b1, b2, e3, e4⟩ := slAt_cell (slAt_below HS.out hW) HY.out
          simp only [Option.some.injEq, Addr.mk.injEq, and_true] at e1 e3
          obtain ⟨rfl, rfl⟩ := e1
          obtain ⟨rfl, rfl⟩ := e3
          exact ⟨e2, e4⟩
        go_wp2
        go_region_held3 (fun W => W.cell? ⟨ab, aoff + j, none⟩ = some x ∧ W.cell? ⟨ab, aoff + (j - 1), none⟩ = some y)
          (first | (with_reducible exact ⟨dx, dy⟩) | (with_reducible exact m0))
          ((go_at_call 52; refine hcall.mono ?_; clear hcall; rintro e w2 ⟨rfl, hB2⟩; have m0 := hcc w2 (HB.out.trans (hB2.mono HB.out.size))))
        go_wp2
        go_roundw
        case rel => exact ⟨j + 1, by go_num, by omega, by omega, HB.out.trans (hB2.mono HB.out.size)⟩
        case measure => simp [intOf]; omega
      · obtain rfl : j = xs.length := by omega
        go_wp2
        go_ret
        exact ⟨rfl, hB⟩
end Go.Proofs.YtlfongfoddlhjaaDoor
