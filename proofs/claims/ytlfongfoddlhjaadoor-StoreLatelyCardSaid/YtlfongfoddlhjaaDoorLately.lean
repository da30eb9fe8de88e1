/- The walk of StoreLately. -/
import Derived.Test.YtlfongfoddlhjaaDoorLru3
namespace Go.Proofs.YtlfongfoddlhjaaDoor
open Go Go.RowKit Go.Lod
set_option maxRecDepth 100000

/-- behind c uses -/
def UState (w : World) (bs be bk ub most c : Nat) (W : World) : Prop :=
  ∃ own pl ov s order given us, StoreAt W own bs be bk pl s ∧ UseAt W ub bs ov order given ∧ ¬ own ub ∧ (∀ g, ov.ownBlock = some g → ¬ own g) ∧ LInv most s order given us ∧
    s.clock ≤ c ∧ s.given ≤ c ∧ order.length ≤ c ∧ Below w.heap.size w W ∧ (∀ k, own k → w.heap.size ≤ k) ∧ w.heap.size ≤ ub

theorem use_step {w : World} {bs be bk ub most c : Nat} {W : World} (h : UState w bs be bk ub most c W) {k : Nat} (hk : k < 40) (hc : c ≤ 90) :
    Calls Tryd.prog 6 #[.pointer (some ⟨ub, 0, none⟩), .int .i64 k] W fun e W' => e = .returned (.bool true) ∧ UState w bs be bk ub most (c + 1) W' := by
  obtain ⟨own, pl, ov, s, order, given, us, hS, hU, hub, hob, hL, h1, h2, h3, hB, ho, hu⟩ := h
  obtain ⟨l1, ⟨us', l2⟩, l3, l4⟩ := use_law hL hk (by omega) (by omega)
  refine (use_calls hS hU hub hob hk hL.good (by omega) (by omega) (by omega) hL.len l1).mono ?_
  rintro e W' ⟨rfl, own', pl', ov', hS', hU', hub', hob', hK, hsup⟩
  have hs := hB.size
  refine ⟨rfl, own', pl', ov', _, _, _, us', hS', hU', hub', hob', l2, by rw [l3]; omega, by omega, ?_, hB.trans (hK.below (by omega) (fun i hi => hi.elim (ho i) (fun e => by omega))), ?_, hu⟩
  · have := keepK_length k order
    simp only [List.length_append, List.length_cons, List.length_nil]; omega
  · intro i hi
    rcases hsup i hi with h | h
    · exact ho i h
    · omega

theorem nodup_get {l : List Nat} (hn : l.Nodup) {i j : Nat} {hi : i < l.length} {hj : j < l.length} (h : l[i] = l[j]) : i = j := by
  have hp := List.pairwise_iff_getElem.1 hn
  rcases Nat.lt_trichotomy i j with hlt | he | hlt
  · exact absurd h (hp i j hi hj hlt)
  · exact he
  · exact absurd h.symm (hp j i hj hi hlt)
theorem mem_lastN {most : Nat} {order : List Nat} (hn : order.Nodup) {j x : Nat} (hx : order[j]? = some x) : x ∈ lastN most order ↔ order.length - most ≤ j := by
  have hj := (List.getElem?_eq_some_iff.1 hx).1
  have hget := (List.getElem?_eq_some_iff.1 hx).2
  unfold lastN
  constructor
  · intro h
    obtain ⟨i, hi, he⟩ := List.mem_iff_getElem.1 h
    rw [List.getElem_drop] at he
    rw [List.length_drop] at hi
    have := nodup_get hn (he.trans hget.symm)
    omega
  · intro h
    refine List.mem_iff_getElem.2 ⟨j - (order.length - most), by rw [List.length_drop]; omega, ?_⟩
    rw [List.getElem_drop]
    refine Eq.trans ?_ hget
    congr 1
    omega

theorem LInv.reads {most : Nat} {s : St} {order : List Nat} {given : List Int} {us : Nat → Int} (h : LInv most s order given us) {x : Nat} (hx : x ∈ order) :
    (x ∈ lastN most order → Reads s (tK x) (gv given x)) ∧ (x ∉ lastN most order → Reads s .nil (gv given x)) := by
  have h0 : s.find 0 = none := by
    cases hf : s.find 0 with
    | none => rfl
    | some e => exact absurd (St.find_mem hf).2 (h.good.ok.nz e (St.find_mem hf).1)
  refine ⟨fun hl => ?_, fun hl => ?_⟩
  · have hm : entK (gv given) us x ∈ s.ents := h.ents.symm.subset (List.mem_map.2 ⟨x, hl, rfl⟩)
    have hf := St.find_of_mem h.good.ok.nd hm
    unfold tK
    simp only [Reads]
    exact ⟨_, hf, rfl, rfl, rfl, rfl, h0⟩
  · show s.find (gv given x) = none
    cases hf : s.find (gv given x) with
    | none => rfl
    | some e =>
      obtain ⟨hm, hid⟩ := St.find_mem hf
      obtain ⟨j, hj, rfl⟩ := perm_map_mem h.ents hm
      have := h.inj j ((lastN_sub _ _).subset hj) x hx hid
      exact absurd (this ▸ hj) hl

theorem linv0 (most : Nat) : LInv most ⟨most, 0, 0, []⟩ [] (List.replicate 40 0) (fun _ => 0) :=
  ⟨⟨⟨by simp [St.ids], by simp, by simp, by simp, by simp⟩, by simp, by simp, by simp, by simp⟩, rfl, by simp, by simp, by simp, by simp, by simp, by simp [lastN], by simp [lastN]⟩

def L1 (w : World) (bs be bk ub most c m : Nat) (i : Value) (W : World) : Prop := ∃ j : Nat, i = .int .i64 j ∧ j ≤ m ∧ UState w bs be bk ub most (c + j) W

def L3 (w3 : World) (order : List Nat) (i : Value) (W : World) : Prop := ∃ j : Nat, i = .int .i64 j ∧ j ≤ order.length ∧ Below w3.heap.size w3 W

set_option maxHeartbeats 4000000 in
theorem lately_calls (many cap : Nat) (hm : many < 256) (hc : cap < 256) (va : Option Addr) (vc : Nat) (xs : List Nat) (w : World)
    (hv : ∀ W, Below w.heap.size w W → ∀ (j : Nat) x, xs[j]? = some x → ∃ ab aoff, va = some ⟨ab, aoff, none⟩ ∧ W.cell? ⟨ab, aoff + j, none⟩ = some (.int .u8 x)) (hx : ∀ x ∈ xs, x < 256) (hxl : xs.length ≤ maxLen) :
    Calls Tryd.prog 3 #[.int .u8 many, .int .u8 cap, .slice va xs.length vc] w fun e w' => e = .returned (.bool true) ∧ Below w.heap.size w w' := by
  have hwk := works_calls w
  have hnew := fun W => new_calls ((cap % 40 : Nat) : Int) (by omega) W
  obtain ⟨most, hmost⟩ : ∃ m, m = cap % 40 := ⟨_, rfl⟩
  obtain ⟨r, hr⟩ : ∃ m, m = many % 40 := ⟨_, rfl⟩
  have t1 : ((many : Int) % 40) = (r : Int) := by omega
  have t2 : ((cap : Int) % 40) = (most : Int) := by omega
  rw [← hmost] at hnew
  have hr40 : r < 40 := by omega
  have hm40 : most < 40 := by omega
  clear hmost hr
  go_enter Tryd.func3, Tryd.ntmps3
  go_wp2_with (first | (go_at_call 4; refine hwk.mono ?_; clear hwk; rintro e w1 ⟨rfl, hB1⟩) | (go_at_call 5; refine (hnew _).mono ?_; clear hnew; rintro e w2 ⟨bs, be, bk, pl, rfl, hS2, hB2, hb1, hb2, hb3⟩; have H2 := Lib.hid (And.intro hB1 (And.intro hS2 (And.intro hB2 (And.intro hb1 (And.intro hb2 hb3))))); clear hB1 hS2 hB2 hb1 hb2 hb3))
  obtain ⟨hB1, hS2, hB2, hb1, hb2, hb3⟩ := H2.out
  have hBw2 : Below w.heap.size w w2 := hB1.trans (hB2.mono hB1.size)
  generalize hW0 : w2.alloc _ = W0
  have hst : UState w bs be bk w2.heap.size most 0 W0 := by
    have hs1 := hB1.size
    have hs2 := hBw2.size
    have hblk : W0.heap[w2.heap.size]? = some (.cells ([Value.pointer (some ⟨bs, 0, none⟩), Value.slice none 0 0] ++ givenCells (List.replicate 40 0)).toArray 31 (0, 0)) := by
      rw [← hW0]; exact alc_new w2 _
    have hbl : Below w2.heap.size w2 W0 := by rw [← hW0]; exact (Below.refl _ _).alloc (Nat.le_refl _) _
    refine ⟨_, pl, .slice none 0 0, _, [], _, _, hS2.below hbl, ⟨hblk, ⟨rfl, .inl ⟨rfl, rfl⟩⟩⟩, fun h => by have := hS2.low _ h; omega, fun g hg => by simp [Value.ownBlock] at hg, linv0 most, by simp, by simp, by simp, hBw2.trans (hbl.mono hs2), ?_, hs2⟩
    rintro k (rfl | rfl | rfl) <;> omega
  generalize w2.heap.size = ub at *
  clear hW0 hB1 hS2 hB2 hb1 hb2 hb3 hBw2 H2
  go_loopw [11] (L1 w bs be bk ub most 0 (1 + r)) (fun i _ => 1 + r - (intOf i).toNat)
  case atStart => exact ⟨0, rfl, by omega, hst⟩
  case round =>
    clear hst
    obtain ⟨j, rfl, hj, hU⟩ := hrel
    by_cases hlt : j < 1 + r
    · have hlt' : decide ((j : Int) < 1 + (r : Int)) = true := decide_eq_true (by omega)
      have hcall := use_step hU (k := j) (by omega) (by omega)
      clear hU
      go_wp2_with (go_at_call 6; refine hcall.mono ?_; clear hcall; rintro e w3 ⟨rfl, hU3⟩)
      go_roundw
      case rel => exact ⟨j + 1, by go_num, by omega, by rw [show 0 + (j + 1) = 0 + j + 1 by omega]; exact hU3⟩
      case measure => simp [intOf]; omega
    · have hlt' : decide ((j : Int) < 1 + (r : Int)) = false := decide_eq_false (by omega)
      have hst : UState w bs be bk ub most (0 + (1 + r) + 0) wr := by rw [show 0 + (1 + r) + 0 = 0 + j by omega]; exact hU
      clear hU hj hlt
      go_wp2
      go_loopw [12] (L1 w bs be bk ub most (0 + (1 + r)) 40) (fun i _ => 40 - (intOf i).toNat)
      case atStart => exact ⟨0, rfl, by omega, hst⟩
      case round =>
        clear hst
        clear hlt'
        obtain ⟨j, rfl, hj, hU⟩ := hrel
        by_cases h2 : j < xs.length ∧ j < 40
        · obtain ⟨h2a, h2b⟩ := h2
          have g1 : decide (j < xs.length) = true := decide_eq_true (by omega)
          have g2 : decide ((j : Int) < 40) = true := decide_eq_true (by omega)
          obtain ⟨x, hxj⟩ : ∃ x, xs[j]? = some x := ⟨_, List.getElem?_eq_getElem h2a⟩
          have hx256 := hx x (List.mem_of_getElem? hxj)
          have hBr : Below w.heap.size w wr := by obtain ⟨_, _, _, _, _, _, _, _, _, _, _, _, _, _, _, hB, _⟩ := hU; exact hB
          obtain ⟨ab, aoff, rfl, hcell⟩ := hv wr hBr j x hxj
          have hk : x % (1 + r) < 1 + r := Nat.mod_lt _ (by omega)
          have q0 : ((1 + (r : Int)) == 0) = false := beq_eq_false_iff_ne.2 (by omega)
          obtain ⟨y, hy⟩ : ∃ y, y = x % (1 + r) := ⟨_, rfl⟩
          have q1 : (x : Int) % (1 + (r : Int)) = (y : Int) := by rw [hy]; simp
          have q2 : (x : Int).tmod (1 + (r : Int)) = (y : Int) := by rw [hy]; rfl
          have hcall := use_step hU (k := y) (by omega) (by omega)
          clear hU hy hk hv hx hxj hBr
          go_wp2_with (go_at_call 6; refine hcall.mono ?_; clear hcall; rintro e w3 ⟨rfl, hU3⟩)
          go_roundw
          case rel => exact ⟨j + 1, by go_num, by omega, by rw [show 0 + (1 + r) + (j + 1) = 0 + (1 + r) + j + 1 by omega]; exact hU3⟩
          case measure => simp [intOf]; omega
        · have hst : UState w bs be bk ub most 90 wr := by
            obtain ⟨a1, a2, a3, a4, a5, a6, a7, b1, b2, b3, b4, b5, b6, b7, b8, b9⟩ := hU
            exact ⟨a1, a2, a3, a4, a5, a6, a7, b1, b2, b3, b4, b5, by omega, by omega, by omega, b9⟩
          have HX : xs.length ≤ j ∨ 40 ≤ j := by omega
          clear hU hj h2 hv hx
          obtain ⟨own, pl, ov, s, order, given, us, hS, hU, hub, hob, hL, -, -, hol, hB, ho, hu⟩ := hst
          have hov : SlAt wr (fun _ => True) 3 ov (intsV order) := (own_slat hU.row).kept fun _ _ _ ho => ⟨ho, trivial⟩
          obtain ⟨oa, oc, hovf⟩ := hov.form
          rw [show (intsV order).length = order.length by simp [intsV]] at hovf
          subst hovf
          have cc1 : ∀ W, Below wr.heap.size wr W → W.cell? ⟨ub, 1, none⟩ = some (.slice oa order.length oc) := fun W hB => cellq (by rw [hB.block ub (lt_of_block hU.blk)]; exact hU.blk)
          have cc2 : ∀ x, x < 40 → ∀ W, Below wr.heap.size wr W → W.cell? ⟨ub, 2 + x, none⟩ = some (.int .u64 (gv given x)) := fun x hx W hB => by
            rw [cellq (by rw [hB.block ub (lt_of_block hU.blk)]; exact hU.blk)]
            have : x < given.length := by rw [hL.len]; exact hx
            simp [givenCells, Nat.add_comm 2 x, gv, List.getD_eq_getElem?_getD, this]
          have HH := Lib.hid (And.intro hS (And.intro hL (And.intro hB (And.intro cc1 cc2))))
          have c1 := cc1 wr (Below.refl _ _)
          clear hU hub hob ho hu hS hL hB cc1 cc2
          generalize hw3 : wr = w3 at HH hov c1 ⊢
          clear hw3
          have HG : decide (j < xs.length) = false ∨ (decide (j < xs.length) = true ∧ decide ((j : Int) < 40) = false) := by
            by_cases hh : xs.length ≤ j
            · exact .inl (decide_eq_false (by omega))
            · exact .inr ⟨decide_eq_true (by omega), decide_eq_false (by omega)⟩
          clear HX
          rcases HG with g1 | ⟨g1, g2⟩
          all_goals
            go_wp2
            go_loopw [13] (L3 w3 order) (fun i _ => order.length - (intOf i).toNat)
            case atStart => exact ⟨0, rfl, Nat.zero_le _, Below.refl _ _⟩
            case round =>
              clear c1
              obtain ⟨i, rfl, hi, hB3⟩ := hrel
              obtain ⟨hS, hL, hBw, cc1, cc2⟩ := HH.out
              by_cases hlt : i < order.length
              · have g3 : decide (i < order.length) = true := decide_eq_true hlt
                obtain ⟨x, hxj⟩ : ∃ x, order[i]? = some x := ⟨_, List.getElem?_eq_getElem hlt⟩
                have hxm := List.mem_of_getElem? hxj
                have hx40 := hL.lt x hxm
                obtain ⟨ob, oo, rfl, hcell⟩ := slAt_cell (slAt_below hov hB3) (j := i) (p := .int .i64 x) (by simp [intsV, hxj])
                have hmem := mem_lastN (most := most) hL.nd hxj
                have hrd := hL.reads hxm
                have d1 := cc1 wr hB3
                have hk3 : ∀ W, Below wr.heap.size wr W → W.cell? ⟨ub, 1, none⟩ = some (.slice (some ⟨ob, oo, none⟩) order.length oc) ∧ W.cell? ⟨ob, oo + i, none⟩ = some (.int .i64 x) ∧ W.cell? ⟨ub, 2 + x, none⟩ = some (.int .u64 (gv given x)) := fun W hB => by
                  have hBW := hB3.trans (hB.mono hB3.size)
                  refine ⟨cc1 W hBW, ?_, cc2 x hx40 W hBW⟩
                  obtain ⟨b1, o1, he, hc⟩ := slAt_cell (slAt_below hov hBW) (j := i) (p := .int .i64 x) (by simp [intsV, hxj])
                  simp only [Option.some.injEq, Addr.mk.injEq, and_true] at he
                  obtain ⟨rfl, rfl⟩ := he
                  exact hc
                have w93 : IntKind.i64.wrap ((order.length : Int) - (most : Int)) = (order.length : Int) - (most : Int) := by rw [IntKind.wrap_i64]; omega
                have hx0 : (x : Int) < 40 := by omega
                have k3 := hk3 wr.drew (Below.refl _ _).drew
                have HK := Lib.hid hk3
                have HB := Lib.hid hB3
                have hSr : StoreAt wr.drew own bs be bk pl s := hS.below hB3.drew
                by_cases hge : order.length - most ≤ i
                · have hcall := type_calls bs be bk (tK x) wr.drew own pl s (gv given x) hSr (hrd.1 (hmem.2 hge)) (fitsK x)
                  have hnil : (!(tK x).isNil) = true := rfl
                  rw [hnil] at hcall
                  have g4 : decide ((order.length : Int) - (most : Int) ≤ (i : Int)) = true := decide_eq_true (by omega)
                  clear hk3 hB3 hS hL hBw cc1 cc2 hov hxj hxm hmem hrd hSr hge
                  go_wp2
                  go_region_held3 (fun W => W.cell? ⟨ub, 1, none⟩ = some (.slice (some ⟨ob, oo, none⟩) order.length oc) ∧ W.cell? ⟨ob, oo + i, none⟩ = some (.int .i64 x) ∧ W.cell? ⟨ub, 2 + x, none⟩ = some (.int .u64 (gv given x)))
                    (first | (with_reducible exact k3) | (with_reducible exact m3))
                    ((go_at_call 7; refine hcall.mono ?_; clear hcall; rintro e w5 ⟨v5, rfl, -, hB5⟩; have hB5' := (Below.refl wr.heap.size wr).drew.trans hB5; have m3 := HK.out w5 hB5'; have d3 := m3.1))
                  go_wp2
                  go_roundw
                  case rel => exact ⟨i + 1, by go_num, by omega, HB.out.trans (hB5'.mono HB.out.size)⟩
                  case measure => simp [intOf]; omega
                · have hcall := type_calls bs be bk .nil wr.drew own pl s (gv given x) hSr (hrd.2 (fun hh => hge (hmem.1 hh))) trivial
                  have hnil : (!Ty.nil.isNil) = false := rfl
                  rw [hnil] at hcall
                  have g4 : decide ((order.length : Int) - (most : Int) ≤ (i : Int)) = false := decide_eq_false (by omega)
                  clear hk3 hB3 hS hL hBw cc1 cc2 hov hxj hxm hmem hrd hSr hge
                  go_wp2
                  go_region_held3 (fun W => W.cell? ⟨ub, 1, none⟩ = some (.slice (some ⟨ob, oo, none⟩) order.length oc) ∧ W.cell? ⟨ob, oo + i, none⟩ = some (.int .i64 x) ∧ W.cell? ⟨ub, 2 + x, none⟩ = some (.int .u64 (gv given x)))
                    (first | (with_reducible exact k3) | (with_reducible exact m3))
                    ((go_at_call 7; refine hcall.mono ?_; clear hcall; rintro e w5 ⟨v5, rfl, -, hB5⟩; have hB5' := (Below.refl wr.heap.size wr).drew.trans hB5; have m3 := HK.out w5 hB5'; have d3 := m3.1))
                  go_wp2
                  go_roundw
                  case rel => exact ⟨i + 1, by go_num, by omega, HB.out.trans (hB5'.mono HB.out.size)⟩
                  case measure => simp [intOf]; omega
              · have g3 : decide (i < order.length) = false := decide_eq_false hlt
                have d1 := cc1 wr hB3
                clear hS hL cc1 cc2 hov
                go_wp2
                go_ret
                exact ⟨rfl, hBw.trans (hB3.mono hBw.size)⟩
end Go.Proofs.YtlfongfoddlhjaaDoor
