/- The walk of StoreLately's 'use'. -/
import Derived.Test.YtlfongfoddlhjaaDoorWorks
namespace Go.Proofs.YtlfongfoddlhjaaDoor
open Go Go.RowKit Go.Lod
set_option maxRecDepth 100000

def tName (k : Nat) : ByteArray := ⟨#[109, 46, 84]⟩ ++ ⟨#[UInt8.ofNat (97 + k % 26), UInt8.ofNat (97 + k / 26)]⟩
def tK (k : Nat) : Ty := .mk 6 (tName k) [] [] .nil

theorem mades : ((List.range 40).all fun k => madeB (tName k) ⟨#[45, 47, 46]⟩ 161) = true := by kernel_rfl
theorem mayK {k : Nat} (h : k < 40) : MayOk (tK k) := by
  unfold tK
  simp only [MayOk]
  refine ⟨by decide, by decide, ⟨.inr rfl, .inl rfl, .inl rfl, by simp [Ty.isNil]⟩, trivial, fun _ => ?_, fun h => absurd h (by decide), fun h => absurd h (by decide)⟩
  exact List.all_eq_true.1 mades k (List.mem_range.2 h)
theorem fitsK (k : Nat) : (tK k).Fits := ⟨by decide, by decide, by decide, trivial, trivial⟩
theorem sizeK (k : Nat) : (tK k).size = 1 := rfl

def givenCells (given : List Int) : List Value := given.map (.int .u64)
/-- the block of 'used' -/
structure UseAt (w : World) (ub bs : Nat) (ov : Value) (order : List Nat) (given : List Int) : Prop where
  blk : w.heap[ub]? = some (.cells ([Value.pointer (some ⟨bs, 0, none⟩), ov] ++ givenCells given).toArray 31 (0, 0))
  row : w.ownsRow 0 3 1 ov order.length (order.map fun (k : Nat) => .int .i64 k)

theorem ownsRow_low {w : World} {base b' : Nat} {T : TypeId} {v : Value} {n : Nat} {xs : List Value} (h : w.ownsRow base T 1 v n xs) (hb : b' ≤ base) : w.ownsRow b' T 1 v n xs := by
  obtain ⟨h1, h2⟩ := h
  refine ⟨h1, h2.imp id ?_⟩
  rintro ⟨g, cap, cur, e1, e2, e3⟩
  exact ⟨g, cap, cur, e1, by omega, e3⟩

theorem UseAt.same {w W : World} {ub bs : Nat} {ov : Value} {order : List Nat} {given : List Int} (h : UseAt w ub bs ov order given) (h1 : W.heap[ub]? = w.heap[ub]?) (h2 : ∀ g o, ov.ownBlock = some g → w.heap[g]? = some o → W.heap[g]? = some o) : UseAt W ub bs ov order given :=
  ⟨h1.trans h.blk, ownsRow_same h.row h2⟩
theorem UseAt.kept {w W : World} {own : Nat → Prop} {ub bs : Nat} {ov : Value} {order : List Nat} {given : List Int} (h : UseAt w ub bs ov order given) (hk : Kept own w W) (h1 : ¬ own ub) (h2 : ∀ g, ov.ownBlock = some g → ¬ own g) : UseAt W ub bs ov order given :=
  h.same (hk.block ub (lt_of_block h.blk) h1) fun g _ hg ho => hk.heap (h2 g hg) ho

theorem info_int : (Tryd.prog.info? 3).map (fun i => (i.zero, i.size, i.bytes)) = some (some (.int .i64 0), 1, 8) := by kernel_rfl

def keepK (k : Nat) (order : List Nat) : List Nat := order.filter fun x => x != k
def intsV (l : List Nat) : List Value := l.map fun (x : Nat) => .int .i64 x

def UsePost (w : World) (own : Nat → Prop) (ub bs be bk : Nat) (s : St) (order : List Nat) (given : List Int) (k : Nat) (e : Ending) (w' : World) : Prop :=
  e = .returned (.bool true) ∧ ∃ own' pl' ov', StoreAt w' own' bs be bk pl' ((s.intern (tK k)).1.release (s.intern (tK k)).2).1 ∧ UseAt w' ub bs ov' (keepK k order ++ [k]) (given.set k (s.intern (tK k)).2) ∧ ¬ own' ub ∧ (∀ g, ov'.ownBlock = some g → ¬ own' g) ∧
    Kept (fun i => own i ∨ i = ub) w w' ∧ ∀ i, own' i → own i ∨ w.heap.size ≤ i

def UCut (own : Nat → Prop) (W0 : World) (bs be bk : Nat) (s1 : St) (id : Int) (a b : Value) (w2 : World) : Prop :=
  a = .int .u64 id ∧ b = .int .i64 0 ∧ ∃ own2 pl2, StoreAt w2 own2 bs be bk pl2 s1 ∧ Kept own W0 w2 ∧ (∀ k, own k → own2 k) ∧ (∀ k, own2 k → own k ∨ W0.heap.size ≤ k)

def LHead (w2 : World) (k : Nat) (order : List Nat) (l i : Value) (W : World) : Prop :=
  ∃ j : Nat, i = .int .i64 j ∧ j ≤ order.length ∧ W.ownsRow w2.heap.size 3 1 l (keepK k (order.take j)).length (intsV (keepK k (order.take j))) ∧ Below w2.heap.size w2 W

theorem keepK_length (k : Nat) (l : List Nat) : (keepK k l).length ≤ l.length := List.length_filter_le _ _
theorem keepK_snoc (k : Nat) (l : List Nat) (x : Nat) : keepK k (l ++ [x]) = if x = k then keepK k l else keepK k l ++ [x] := by
  unfold keepK
  rw [List.filter_append]
  by_cases h : x = k <;> simp [h]

set_option maxHeartbeats 4000000 in
theorem use_calls {w : World} {own : Nat → Prop} {bs be bk ub : Nat} {pl : Int → Site} {s : St} {ov : Value} {order : List Nat} {given : List Int} (h : StoreAt w own bs be bk pl s) (hu : UseAt w ub bs ov order given) (hub : ¬ own ub) (hob : ∀ g, ov.ownBlock = some g → ¬ own g) {k : Nat} (hk : k < 40) (hg : s.Good)
    (hgb : s.given + 1 < 9223372036854775808) (hcb : s.clock + 1 < 9223372036854775808) (hol : order.length ≤ 100) (hgl : given.length = 40) (hrel : ((s.intern (tK k)).1.release (s.intern (tK k)).2).2 = 0) :
    Calls Tryd.prog 6 #[.pointer (some ⟨ub, 0, none⟩), .int .i64 k] w (UsePost w own ub bs be bk s order given k) := by
  have c0 : w.cell? ⟨ub, 0, none⟩ = some (.pointer (some ⟨bs, 0, none⟩)) := cellq hu.blk
  have hr : k % 26 < 26 := Nat.mod_lt _ (by decide)
  have hq : k / 26 < 2 := by omega
  obtain ⟨r, hr'⟩ : ∃ r : Nat, r = k % 26 := ⟨_, rfl⟩
  obtain ⟨q, hq'⟩ : ∃ q : Nat, q = k / 26 := ⟨_, rfl⟩
  have t1 : (k : Int).tmod 26 = (r : Int) := by rw [hr']; rfl
  have t2 : IntKind.i64.wrap (97 + (r : Int)) = 97 + (r : Int) := by rw [IntKind.wrap_i64]; omega
  have t3 : IntKind.u8.wrap (97 + (r : Int)) = 97 + (r : Int) := by simp only [IntKind.wrap, IntKind.signed, IntKind.bits, Bool.false_and, Bool.false_eq_true, if_false]; omega
  have t4 : IntKind.i64.wrap ((k : Int) / 26) = (q : Int) := by rw [IntKind.wrap_i64, hq']; omega
  have t5 : IntKind.i64.wrap (97 + (q : Int)) = 97 + (q : Int) := by rw [IntKind.wrap_i64]; omega
  have t6 : IntKind.u8.wrap (97 + (q : Int)) = 97 + (q : Int) := by simp only [IntKind.wrap, IntKind.signed, IntKind.bits, Bool.false_and, Bool.false_eq_true, if_false]; omega
  have hcv := run_convert_bytes_arg (P := Tryd.prog) (w.alloc (.cells #[.int .u8 (97 + (r : Int)), .int .u8 (97 + (q : Int))] 5)).drew 22 5 Tryd.underlying22 Tryd.underlying5 w.heap.size 0 2 2 [97 + (r : Int), 97 + (q : Int)] rfl (fun i hi => by
    rw [World.cell?_drew, World.cell?_alloc_at _ _ _ _ rfl]
    obtain rfl | rfl : i = 0 ∨ i = 1 := by omega
    · rfl
    · rfl) 9 Tryd.underlying9
  have hnm : (⟨#[109, 46, 84]⟩ : ByteArray) ++ strOfNums [97 + (r : Int), 97 + (q : Int)] = tName k := by
    unfold tName strOfNums
    congr 2
    rw [hr', hq']
    rfl
  have hadd : ∀ W : World, (Op.stringOp .add ⟨#[109, 46, 84]⟩ (strOfNums [97 + (r : Int), 97 + (q : Int)])).run Tryd.prog W = .ok (.string (tName k)) W := by
    intro W
    rw [run_string_add_sum W _ _ (by simp [strOfNums, ByteArray.size]), hnm]
  generalize strOfNums [97 + (r : Int), 97 + (q : Int)] = x at *
  have hr26 : r < 26 := by omega
  have hq2 : q < 2 := by omega
  have hSd : StoreAt ((w.alloc (.cells #[.int .u8 (97 + (r : Int)), .int .u8 (97 + (q : Int))] 5)).alloc (.cells #[.int .i64 6, .string (tName k), .slice none 0 0, .slice none 0 0, .pointer none] 43)).drew own bs be bk pl s :=
    h.below ((((Below.refl _ w).alloc (Nat.le_refl _) _).alloc (by simp only [World.size_alloc]; omega) _).drew)
  have hTd : TyAt ((w.alloc (.cells #[.int .u8 (97 + (r : Int)), .int .u8 (97 + (q : Int))] 5)).alloc (.cells #[.int .i64 6, .string (tName k), .slice none 0 0, .slice none 0 0, .pointer none] 43)).drew (fun i => ¬ own i) (tK k) (.pointer (some ⟨w.heap.size + 1, 0, none⟩)) := by
    unfold tK
    simp only [TyAt, TysAt]
    refine ⟨w.heap.size + 1, _, _, _, rfl, fun hk => by have := h.low _ hk; omega, ?_, .inl ⟨rfl, none, 0, rfl⟩, ⟨[], .inl ⟨rfl, none, 0, rfl⟩, rfl⟩, rfl⟩
    have := alc_new (w.alloc (.cells #[.int .u8 (97 + (r : Int)), .int .u8 (97 + (q : Int))] 5)) (.cells #[.int .i64 6, .string (tName k), .slice none 0 0, .slice none 0 0, .pointer none] 43)
    rw [World.size_alloc] at this
    exact this
  have hcall := intern_calls hSd hg (fitsK k) (mayK hk) (by rw [sizeK]; omega) (by rw [sizeK]; exact hgb) (by rw [sizeK]; exact hcb) hTd
  have hl0 : ub < w.heap.size := lt_of_block hu.blk
  have hn1 : ub ≠ w.heap.size := Nat.ne_of_lt hl0
  have hn2 : ub ≠ w.heap.size + 1 := by omega
  have hbl : Below w.heap.size w ((w.alloc (.cells #[.int .u8 (97 + (r : Int)), .int .u8 (97 + (q : Int))] 5)).alloc (.cells #[.int .i64 6, .string (tName k), .slice none 0 0, .slice none 0 0, .pointer none] 43)).drew := (((Below.refl _ w).alloc (Nat.le_refl _) _).alloc (by simp only [World.size_alloc]; omega) _).drew
  have hu1 := hu.kept (Kept.of_below (own := own) hbl) hub hob
  obtain ⟨gI1, gI2, gI3, gI4, gI5⟩ := St.intern_good hg (fitsK k) (by rw [sizeK]; exact hgb) (by rw [sizeK]; exact hcb)
  unfold UsePost
  unfold InternPost at hcall
  generalize (s.intern (tK k)).1 = s1 at *
  generalize (s.intern (tK k)).2 = id at *
  have HU := Lib.hid (And.intro hu1 (And.intro hub (And.intro hob (And.intro hbl (And.intro hrel (And.intro gI1 (And.intro hol hgl)))))))
  clear hr' hq' hr hq hnm hSd hTd hbl hu1 gI1 gI2 gI3 gI4 gI5 hrel
  clear h hu hub hg hgb hcb hob hol hgl
  go_enter Tryd.func6, Tryd.ntmps6
  go_wp2
  go_cut [5, 6] (UCut own ((w.alloc (.cells #[.int .u8 (97 + (r : Int)), .int .u8 (97 + (q : Int))] 5)).alloc (.cells #[.int .i64 6, .string (tName k), .slice none 0 0, .slice none 0 0, .pointer none] 43)).drew bs be bk s1 id)
  case first =>
    go_region_with (go_at_call 8; refine hcall.mono ?_; rintro e w2 ⟨rfl, own2, pl2, hS2, hK2, hsub2, hsup2⟩)
    all_goals go_wp2
    all_goals go_meet
    all_goals exact ⟨rfl, rfl, own2, pl2, hS2, hK2, hsub2, hsup2⟩
  case rest =>
  obtain ⟨rfl, rfl, own2, pl2, hS2, hK2, hsub2, hsup2⟩ := hcut
  have hu2 := HU.out.1.kept hK2 HU.out.2.1 HU.out.2.2.1
  have e2 : wc.cell? ⟨ub, 0, none⟩ = some (.pointer (some ⟨bs, 0, none⟩)) := cellq hu2.blk
  generalize wc = w2 at *
  clear hcall
  obtain ⟨-, hub, hob, hbl, hrel, hg1, hol, hgl⟩ := HU.out
  obtain ⟨i0, hi, hz0, hz1, hz2⟩ := info_parts info_int
  have hov : SlAt w2 (fun _ => True) 3 ov (intsV order) := (own_slat hu2.row).kept fun _ _ _ ho => ⟨ho, trivial⟩
  obtain ⟨oa, oc, hovf⟩ := hov.form
  rw [show (intsV order).length = order.length by simp [intsV]] at hovf
  subst hovf
  have cc1 : ∀ W, Below w2.heap.size w2 W → W.cell? ⟨ub, 1, none⟩ = some (.slice oa order.length oc) := fun W hB => cellq (by rw [hB.block ub (lt_of_block hu2.blk)]; exact hu2.blk)
  have HX := Lib.hid (And.intro hS2 (And.intro hK2 (And.intro hsub2 (And.intro hsup2 (And.intro hu2 (And.intro hub (And.intro hob (And.intro hbl (And.intro hrel (And.intro hg1 (And.intro hgl HU.out.1)))))))))))
  clear hS2 hK2 hsub2 hsup2 hu2 hub hob hbl hrel hg1 hgl HU hcv hadd e2
  have c1 := cc1 w2 (Below.refl _ _)
  go_wp2
  go_loopw [7, 8] (LHead w2 k order) (fun _ i _ => order.length - (intOf i).toNat)
  case atStart => exact ⟨0, rfl, Nat.zero_le _, ⟨rfl, .inl ⟨rfl, rfl⟩⟩, Below.refl _ _⟩
  case round =>
    clear c1
    obtain ⟨j, rfl, hj, hrow, hB⟩ := hrel
    have c1 := cc1 wr hB
    by_cases hlt : j < order.length
    · obtain ⟨x, hx⟩ : ∃ x, order[j]? = some x := ⟨_, List.getElem?_eq_getElem hlt⟩
      have hxv : (intsV order)[j]? = some (.int .i64 x) := by simp [intsV, hx]
      obtain ⟨ob, oo, rfl, hcell⟩ := slAt_cell (hov.kept (w' := wr) (S' := fun _ => True) fun i o _ ho => ⟨by rw [hB.block i (lt_of_block ho)]; exact ho, trivial⟩) hxv
      have htk : order.take (j + 1) = order.take j ++ [x] := by rw [List.take_add_one, hx]; rfl
      have hks := keepK_snoc k (order.take j) x
      have hkl := keepK_length k (order.take j)
      rw [List.length_take] at hkl
      by_cases hxk : x = k
      · have hd : ((x : Int) == (k : Int)) = true := by rw [hxk]; simp
        have HR := Lib.hid (And.intro hrow (And.intro hB (And.intro htk (And.intro hks hxk))))
        clear hrow hB htk hks hxk hx hxv hov cc1 hkl
        go_wp2
        go_roundw
        case rel => exact ⟨j + 1, by go_num, by omega, by rw [HR.out.2.2.1, HR.out.2.2.2.1, if_pos HR.out.2.2.2.2]; exact HR.out.1, HR.out.2.1⟩
        case measure => simp [intOf]; omega
      · have hd : ((x : Int) == (k : Int)) = false := beq_eq_false_iff_ne.2 (by omega)
        have hb1 : (keepK k (order.take j)).length + 1 ≤ maxLen := by unfold maxLen; omega
        have hb2 : ((keepK k (order.take j)).length + 1) * 8 ≤ 140737488355328 := by omega
        have HR := Lib.hid (And.intro hB (And.intro htk (And.intro hks (And.intro hxk hrow))))
        clear hB htk hks hxk hx hxv hov cc1 hkl
        go_wp2_with (at_builtin; refine wpList_append_lies _ rfl (.tmp 48) (.tmp 56) 27 rfl w2.heap.size 3 i0 (.int .i64 0) 1 8 Tryd.underlying27 hi hz0 hz1 hz2 rfl (by decide) _ _ _ rfl (hrow.alloc _) ⟨wr.heap.size, 0, none⟩ 1 1 [.int .i64 x] rfl rfl (cell_one_new _ _ _) (fun u hu => by simp only [List.mem_cons, List.not_mem_nil, or_false] at hu; subst hu; rfl) (by decide) hb1 hb2 (by have := HR.out.1.size; simp only [World.size_alloc]; omega) (wr.heap.size + 1) (by simp) ?_; intro g cap w3 hown3 hgrow3 hgg3 hlt3; have HW := Lib.hid (And.intro hown3 hgrow3); clear hown3 hgrow3 hgg3)
        go_roundw
        case rel =>
          obtain ⟨hown3, hgrow3⟩ := HW.out
          obtain ⟨hB, htk, hks, hxk, hrow⟩ := HR.out
          refine ⟨j + 1, by go_num, by omega, ?_, (hB.alloc hB.size _).grown hgrow3 (by have := hB.size; simp only [World.size_alloc]; omega) (fun g hg => (ownsRow_kind hrow hg).choose_spec.2)⟩
          rw [htk, hks, if_neg hxk]
          simpa [intsV] using hown3
        case measure => simp [intOf]; omega
    · obtain rfl : j = order.length := by omega
      rw [List.take_length] at hrow
      have hkl := keepK_length k order
      have hb1 : (keepK k order).length + 1 ≤ maxLen := by unfold maxLen; omega
      have hb2 : ((keepK k order).length + 1) * 8 ≤ 140737488355328 := by omega
      obtain ⟨-, -, -, -, hu2, -, -, -, -, -, hgl, -⟩ := HX.out
      have hfacts : ∀ W, Below w2.heap.size w2 W → W.cell? ⟨ub, 0, none⟩ = some (.pointer (some ⟨bs, 0, none⟩)) ∧ W.cell? ⟨ub, 1, none⟩ = some (.slice oa order.length oc) ∧ (∃ y, W.cell? ⟨ub, 2 + k, none⟩ = some (.int .u64 y)) ∧ W.frozen? ⟨ub, 1, none⟩ = false ∧ W.frozen? ⟨ub, 2 + k, none⟩ = false := by
        intro W hB
        have hb : W.heap[ub]? = _ := (hB.block ub (lt_of_block hu2.blk)).trans hu2.blk
        obtain ⟨y, hy⟩ : ∃ y, given[k]? = some y := ⟨_, List.getElem?_eq_getElem (by omega)⟩
        refine ⟨cellq hb, cellq hb, ⟨y, ?_⟩, frozq hb, frozq hb⟩
        rw [cellq hb]
        simp [givenCells, Nat.add_comm 2 k, hy]
      have HR := Lib.hid (And.intro hB hrow)
      have HF := Lib.hid hfacts
      clear hB hov cc1 hkl hfacts hu2 hgl
      go_wp2_with (at_builtin; refine wpList_append_lies _ rfl (.tmp 59) (.tmp 61) 27 rfl w2.heap.size 3 i0 (.int .i64 0) 1 8 Tryd.underlying27 hi hz0 hz1 hz2 rfl (by decide) _ _ _ rfl (hrow.alloc _) ⟨wr.heap.size, 0, none⟩ 1 1 [.int .i64 k] rfl rfl (cell_one_new _ _ _) (fun u hu => by simp only [List.mem_cons, List.not_mem_nil, or_false] at hu; subst hu; rfl) (by decide) hb1 hb2 (by have := HR.out.1.size; simp only [World.size_alloc]; omega) (wr.heap.size + 1) (by simp) ?_; intro g cap w3 hown3 hgrow3 hgg3 hlt3; have hB3 : Below w2.heap.size w2 w3 := (HR.out.1.alloc HR.out.1.size _).grown hgrow3 (by have := HR.out.1.size; simp only [World.size_alloc]; omega) (fun g hg => (ownsRow_kind HR.out.2 hg).choose_spec.2); obtain ⟨f0, f1, ⟨y, f2⟩, f3, f4⟩ := HF.out w3 hB3; have HW := Lib.hid (And.intro hown3 hB3); clear hown3 hgrow3 hgg3 hB3 hrow)
      obtain ⟨hS2, hK2, hsub2, hsup2, hu2, hub, hob, hbl, hrel, hg1, hgl, hu1⟩ := HX.out
      obtain ⟨hown3, hB3⟩ := HW.out
      have hub2 : ¬ own2 ub := fun h => (hsup2 ub h).elim hub (fun h => by have := lt_of_block hu1.blk; omega)
      have hb3 := (hB3.block ub (lt_of_block hu2.blk)).trans hu2.blk
      obtain ⟨cu3, hc3, hg3⟩ := ownsRow_kind hown3 (g := g) rfl
      have hgub : g ≠ ub := by have := lt_of_block hu2.blk; omega
      have hset : ∀ i, i ≠ ub → ((w3.setCell ⟨ub, 1, none⟩ (.slice (some ⟨g, 0, none⟩) ((keepK k order).length + 1) cap)).setCell ⟨ub, 2 + k, none⟩ (.int .u64 id)).heap[i]? = w3.heap[i]? := fun i hi => by rw [Below.heap_setCell _ _ _ _ hi, Below.heap_setCell _ _ _ _ hi]
      have hb5 : ((w3.setCell ⟨ub, 1, none⟩ (.slice (some ⟨g, 0, none⟩) ((keepK k order).length + 1) cap)).setCell ⟨ub, 2 + k, none⟩ (.int .u64 id)).heap[ub]? = some (.cells ([Value.pointer (some ⟨bs, 0, none⟩), Value.slice (some ⟨g, 0, none⟩) ((keepK k order).length + 1) cap] ++ givenCells (given.set k id)).toArray 31 (0, 0)) := by
        rw [Go.Lod.heap_setCell_same (Go.Lod.heap_setCell_same hb3 _)]
        congr 2
        rw [Nat.add_comm 2 k]
        simp [givenCells, List.map_set]
      have hsz5 : ((w3.setCell ⟨ub, 1, none⟩ (.slice (some ⟨g, 0, none⟩) ((keepK k order).length + 1) cap)).setCell ⟨ub, 2 + k, none⟩ (.int .u64 id)).heap.size = w3.heap.size := by simp
      have hos5 : Kept (fun i => i = ub) w3 ((w3.setCell ⟨ub, 1, none⟩ (.slice (some ⟨g, 0, none⟩) ((keepK k order).length + 1) cap)).setCell ⟨ub, 2 + k, none⟩ (.int .u64 id)) := ((Kept.refl (fun i => i = ub) w3).setCell (p := ⟨ub, 1, none⟩) (.inl rfl) _).setCell (p := ⟨ub, 2 + k, none⟩) (.inl rfl) _
      generalize (w3.setCell ⟨ub, 1, none⟩ (.slice (some ⟨g, 0, none⟩) ((keepK k order).length + 1) cap)).setCell ⟨ub, 2 + k, none⟩ (.int .u64 id) = W5 at hset hb5 hsz5 hos5 ⊢
      have hS5 : StoreAt W5 own2 bs be bk pl2 s1 := hS2.kept (fun i hi => (hset i (fun e => hub2 (e ▸ hi))).trans (hB3.block i (hS2.low i hi))) (by have := hB3.size; omega)
      have hr := release_calls hS5 hg1.ok id
      rw [hrel] at hr
      have hown5 : W5.ownsRow w2.heap.size 3 1 (.slice (some ⟨g, 0, none⟩) ((keepK k order).length + 1) cap) ((keepK k order).length + 1) (intsV (keepK k order) ++ [.int .i64 k]) := ownsRow_same hown3 fun i o hi ho => by
        simp only [Value.ownBlock, Option.some.injEq] at hi
        rw [hset i (by omega)]; exact ho
      have hK5 : Kept (fun i => own i ∨ i = ub) w W5 := by
        refine ((((Kept.of_below (own := fun i => own i ∨ i = ub) hbl).trans hK2 ?_).trans (own' := fun _ => False) (Kept.of_below hB3) (fun _ h => h.elim)).trans hos5 ?_)
        · intro i hi; exact .inl (.inl hi)
        · intro i hi; exact .inl (.inr hi)
      have HZ := Lib.hid (And.intro hown5 (And.intro hK5 (And.intro hb5 (And.intro hub2 (And.intro hsup2 (And.intro hbl (And.intro hg3 hS2)))))))
      clear hS2 hK2 hsub2 hsup2 hu2 hub hob hbl hrel hg1 hgl hu1 hown3 hB3 hub2 hb3 hc3 hg3 hgub hset hb5 hsz5 hos5 hS5 hown5 hK5 f0 f1 f2 f3 f4
      refine hr.mono ?_
      clear hr
      rintro e w6 ⟨rfl, hS6, hK6⟩
      have HQ := Lib.hid (And.intro hS6 hK6)
      clear hS6 hK6
      go_wp2
      go_ret
      obtain ⟨hown5, hK5, hb5, hub2, hsup2, hbl, hg3, hS2⟩ := HZ.out
      obtain ⟨hS6, hK6⟩ := HQ.out
      have hgo : ¬ own2 g := fun h => by have := hS2.low g h; omega
      refine ⟨rfl, own2, pl2, .slice (some ⟨g, 0, none⟩) ((keepK k order).length + 1) cap, hS6, ⟨?_, ?_⟩, hub2, ?_, ?_, ?_⟩
      · rw [hK6.block ub (lt_of_block hb5) hub2]; exact hb5
      · have := ownsRow_low (ownsRow_same hown5 fun i o hi ho => hK6.heap (by simp only [Value.ownBlock, Option.some.injEq] at hi; subst hi; exact hgo) ho) (Nat.zero_le _)
        simpa [intsV] using this
      · intro i hi
        simp only [Value.ownBlock, Option.some.injEq] at hi
        subst hi; exact hgo
      · refine hK5.trans hK6 fun i hi => ?_
        rcases hsup2 i hi with h | h
        · exact .inl (.inl h)
        · have := hbl.size; exact .inr (by omega)
      · intro i hi
        rcases hsup2 i hi with h | h
        · exact .inl h
        · have := hbl.size; exact .inr (by omega)
end Go.Proofs.YtlfongfoddlhjaaDoor
