/- The walks of the store's small functions: none, hold. -/
import Derived.Test.YtlfongfoddlhjaaDoorStore
import Derived.BigQuiet
import Derived.Deep.RegionLawGrows
import Derived.LaidSub
import Derived.Deep.DeepCutAuto
import Derived.Deep.RegionHeld3
import Derived.Lib.Hide
namespace Go.Proofs.YtlfongfoddlhjaaDoor
open Go Go.RowKit Go.Lod
open Go.ChangeMaps (setBlock)
set_option maxHeartbeats 400000
set_option maxRecDepth 100000

theorem eql_entries (w : World) (r : Option Nat) : (binOp .eql 51 (.map r) (.map none)).run Tryd.prog w = .ok (.bool r.isNone) w := run_eql_map_nil w _ _ _ r Tryd.underlying51
attribute [local go_sem] eql_entries

theorem none_false {w : World} {bs be : Nat} (h : w.cell? ⟨bs, 3, none⟩ = some (.map (some be))) :
    Calls Tryd.prog 14 #[.pointer (some ⟨bs, 0, none⟩)] w fun e w' => e = .returned (.bool false) ∧ w' = w := by
  go_enter Tryd.func14, Tryd.ntmps14
  go_wp2
  go_ret
  exact ⟨rfl, rfl⟩

/-- append of nothing, as one step of a region that draws -/
theorem step_append_nothing {P : Program} {ops : Array Oper} {o : Oper} {a : Act} {w : World} {K : Act → World → Prop} {Q : Exit → Act → World → Prop} {E : Prop}
    (hg : o.guard = none) (s x : Operand) (t : TypeId) (hop : o.op = Op.call { callee := Callee.builtin Builtin.append, args := #[s, x], argTypes := #[t, t] })
    (e : TypeId) (i : TypeInfo) (h1 : P.underlying t = some (.slice e)) (h2 : P.info? e = some i)
    (ao : Option Addr) (n cap : Nat) (hs : a.eval s = .slice ao n cap) (hn : n ≤ cap) (xo : Option Addr) (c : Nat) (hx : a.eval x = .slice xo 0 c)
    (hK : K (a.put o.dst (.slice ao n cap)) w) :
    if Region.wanted o (yielded ops a.tmps) = true then Oper.wp P o a w K Q else E := by
  have hw : Region.wanted o (yielded ops a.tmps) = true := by simp [Region.wanted, hg]
  rw [if_pos hw]
  have hrun : (Builtin.append_ #[t, t] o.type #[.slice ao n cap, .slice xo 0 c]).run P w = .ok (.slice ao n cap) w := by
    have hsz : (sizeOf e).run P w = .ok i.size w := by simp [sizeOf, typeInfo, h2]
    cases ao <;> cases xo <;> simp [Builtin.append_, run_underlying h1, Result.andThen, hsz, hn, Builtin.lenOf, Builtin.firstCells, loadCells, loadCellsFrom, storeCells]
  unfold Oper.wp
  simp [execOp, hop, resolve, invoke, builtin, hs, hx, hrun, Result.andThen]
  exact hK

theorem info_u64 : (Tryd.prog.info? 28).map (fun i => (i.zero, i.size, i.bytes)) = some (some (.int .u64 0), 1, 8) := by kernel_rfl

theorem cell_of_take {w : World} {g n : Nat} {cur : Array Value} {T : TypeId} {fz : Nat × Nat} {xs : List Value} (hg : w.heap[g]? = some (.cells cur T fz)) (ht : cur.toList.take n = xs) {j : Nat} {x : Value} (hx : xs[j]? = some x) :
    w.cell? ⟨g, j, none⟩ = some x := by
  subst ht
  have hj : j < n := by
    rcases Nat.lt_or_ge j n with h | h
    · exact h
    · rw [List.getElem?_eq_none (by simp; omega)] at hx; simp at hx
  rw [List.getElem?_take_of_lt hj] at hx
  simp only [World.cell?, hg]
  simpa using hx

theorem own_form {w : World} {base : Nat} {T : TypeId} {v : Value} {n : Nat} {xs : List Value} (h : w.ownsRow base T 1 v n xs) (hn : n ≠ 0) :
    ∃ g cap, v = .slice (some ⟨g, 0, none⟩) n cap ∧ base ≤ g ∧ ∀ (j : Nat) x, xs[j]? = some x → w.cell? ⟨g, j, none⟩ = some x := by
  obtain ⟨_, h⟩ := h
  rcases h with ⟨_, h⟩ | ⟨g, cap, cur, h1, h2, h3, h4, h5, h6, h7⟩
  · exact absurd h hn
  · exact ⟨g, cap, h1, h2, fun j x hx => cell_of_take h3 h7 hx⟩

theorem cell_grown {w w' : World} {a : Addr} (h : w.grownBy w' none) (hl : a.block < w.heap.size) : w'.cell? a = w.cell? a :=
  World.cell?_of_block (h.block _ hl (by simp))

theorem below_grown {w w' : World} {o : Obj} {B : Nat} (hB : B ≤ w.heap.size) (h : (w.alloc o).grownBy w' none) : Below B w w' :=
  ((Below.refl B w).alloc hB o).grown h (by simp; omega) (by simp)

def HoldIds (ids : List Int) (w : World) (v n i : Value) (W : World) : Prop :=
  ∃ b2 c2, v = .slice (some ⟨b2, 0, none⟩) ids.length c2 ∧ n = .int .i64 ids.length ∧ i = .int .i64 0 ∧
    (∀ (j : Nat) x, (ids.map (Value.int .u64))[j]? = some x → W.cell? ⟨b2, j, none⟩ = some x) ∧ w.heap.size ≤ b2 ∧ Below w.heap.size w W

theorem hold_calls {w : World} {own : Nat → Prop} {bs be bk : Nat} {pl : Int → Site} {s : St} (h : StoreAt w own bs be bk pl s) {e : Ent} (he : e ∈ s.ents) (hnd : s.ids.Nodup) (by_ : Int) (hlen : e.args.length < 2147483648) :
    Calls Tryd.prog 26 #[.pointer (some ⟨bs, 0, none⟩), encP (pl e.id), .int .i64 by_] w fun r w' =>
      r = .returned (.tuple #[]) ∧ StoreAt w' own bs be bk pl (s.hold (e.ret :: e.args) by_) ∧ Kept own w w' := by
  have E := h.ents e he
  obtain ⟨i0, hi, hz0, hz1, hz2⟩ := info_parts info_u64
  generalize hp : pl e.id = p at E
  obtain ⟨eb, nv, av⟩ := p
  have c4 : w.cell? ⟨eb, 4, none⟩ = some (.int .u64 e.ret) := by simp [World.cell?, E.heap, cellsOfEnt]
  have c6 : w.cell? ⟨eb, 6, none⟩ = some av := by simp [World.cell?, E.heap, cellsOfEnt]
  have hlt : eb < w.heap.size := lt_of_block E.heap
  have hne : eb ≠ w.heap.size := Nat.ne_of_lt hlt
  have ha := E.args
  clear E hp
  simp only [encP]
  go_enter Tryd.func26, Tryd.ntmps26
  go_wp2
  go_cut [19, 20, 21] (HoldIds (e.ret :: e.args) w)
  case first =>
    have fin0 : e.args.length = 0 → HoldIds (e.ret :: e.args) w (.slice (some ⟨w.heap.size, 0, none⟩) 1 1) (.int .i64 1) (.int .i64 0) (w.alloc (.cells #[.int .u64 e.ret] 28)).drew := by
      intro h0
      rw [List.eq_nil_of_length_eq_zero h0]
      refine ⟨w.heap.size, 1, rfl, rfl, rfl, ?_, Nat.le_refl _, ((Below.refl _ _).alloc (Nat.le_refl _) _).drew⟩
      intro j x hx
      cases j with
      | zero => simp at hx; subst hx; simp
      | succ j => simp at hx
    by_cases hpos : e.args.length = 0
    · obtain ⟨a, c, rfl⟩ : ∃ a c, av = .slice a 0 c := by
        rcases ha with ⟨h0, a, c, hav⟩ | ⟨b, off, c, cur, fz, hav, h2, h3, h4, h5⟩
        · exact ⟨a, c, hav⟩
        · exact ⟨some ⟨b, off, none⟩, c, by rw [show av = _ from hav]; simp [hpos]⟩
      go_region_held3 (fun W => W.cell? ⟨eb, 4, none⟩ = some (.int .u64 e.ret) ∧ W.cell? ⟨eb, 6, none⟩ = some (.slice a 0 c)) (go_keep)
        ((refine step_append_nothing rfl (.tmp 14) (.tmp 18) 47 rfl 28 i0 Tryd.underlying47 hi _ 1 1 rfl (Nat.le_refl _) _ _ rfl ?_))
      go_wp2
      go_meet
      case rel => exact fin0 hpos
    · obtain ⟨b, off, c, cur, fz, rfl, h2, h3, h4, h5⟩ : ∃ b off c cur fz, av = .slice (some ⟨b, off, none⟩) e.args.length c ∧ e.args.length ≤ c ∧ own b ∧ w.heap[b]? = some (.cells cur 28 fz) ∧
          ∀ (i : Nat) x, (e.args.map (Value.int .u64))[i]? = some x → cur[off + i]? = some x := by
        rcases ha with ⟨h0, a, c, hav⟩ | ⟨b, off, c, cur, fz, hav, h2, h3, h4, h5⟩
        · exact absurd (by simpa using h0) (fun h : e.args = [] => hpos (by rw [h]; rfl))
        · exact ⟨b, off, c, cur, fz, by simpa using hav, by simpa using h2, h3, h4, h5⟩
      have hb : b ≠ w.heap.size := Nat.ne_of_lt (lt_of_block h4)
      have hcells : ∀ (j : Nat) u, (e.args.map (Value.int .u64))[j]? = some u → ((w.alloc (.cells #[.int .u64 e.ret] 28)).drew).cell? (Addr.add ⟨b, off, none⟩ j) = some u := by
        intro j u hj
        rw [Addr.add_lit, World.cell?_drew, World.cell?_alloc_old _ _ _ hb]
        simp [World.cell?, h4, h5 j u hj]
      have hc1 : ∀ b', some (⟨w.heap.size, 0, none⟩ : Addr) = some b' → ∀ (j : Nat) u, [Value.int .u64 e.ret][j]? = some u → ((w.alloc (.cells #[.int .u64 e.ret] 28)).drew).cell? (Addr.add b' j) = some u := by
        rintro b' hb' j u hj
        simp only [Option.some.injEq] at hb'
        subst hb'
        cases j with
        | zero => simp at hj; subst hj; simp [Addr.add_lit]
        | succ j => simp at hj
      have hc2 : (e.args.map (Value.int .u64)).length = e.args.length * 1 := by simp
      have hc3 : ∀ u ∈ e.args.map (Value.int .u64), u.oneCell' = true := by
        intro u hu
        obtain ⟨x, _, rfl⟩ := List.mem_map.1 hu
        rfl
      have hc4 : 1 < 1 + e.args.length := by omega
      have hc5 : 1 + e.args.length ≤ maxLen := by unfold maxLen; omega
      have hc6 : (1 + e.args.length) * 8 ≤ 140737488355328 := by omega
      clear h5 h4 h2 h3 fin0 hlen
      go_region_held3 (fun W => W.cell? ⟨eb, 4, none⟩ = some (.int .u64 e.ret) ∧ W.cell? ⟨eb, 6, none⟩ = some (.slice (some ⟨b, off, none⟩) e.args.length c))
        (first | go_keep | exact ⟨(cell_grown hgrow (by simp; omega)).trans (by simp [World.cell?_alloc_old, hne, c4]), (cell_grown hgrow (by simp; omega)).trans (by simp [World.cell?_alloc_old, hne, c6])⟩)
        ((refine step_append_grows rfl (.tmp 14) (.tmp 18) 47 rfl 28 i0 (.int .u64 0) 1 8 Tryd.underlying47 hi hz0 hz1 hz2 rfl (by decide) _ 1 1 [.int .u64 e.ret] rfl (by simp) rfl hc1 ⟨b, off, none⟩ _ _ (e.args.map (.int .u64)) rfl hc2 hcells hc3 hc4 hc5 hc6 ?_; intro v' w1 hown hgrow; obtain ⟨g, cap', rfl, hg1, hg2⟩ := own_form hown (by omega)))
      go_wp2
      go_meet
      case rel =>
        have e1 : 1 + e.args.length = (e.ret :: e.args).length := by simp; omega
        refine ⟨g, cap', ?_, ?_, rfl, hg2, ?_, below_grown (Nat.le_refl _) (o := .cells #[.int .u64 e.ret] 28) ⟨hgrow.os, hgrow.tape, hgrow.output, hgrow.size, hgrow.block⟩⟩
        · rw [e1]
        · simp; omega
        · simp at hg1; omega
  case rest =>
    obtain ⟨b2, c2, rfl, rfl, rfl, hcell, hb2, hB⟩ := hcut
    generalize hids : e.ret :: e.args = ids at hcell
    have hN : ids.length < 2147483649 := by rw [← hids]; simp; omega
    have HI := Lib.hid hids
    have hold : ∀ x ∈ s.ids, (pl x).blk < w.heap.size := by
      intro x hx
      obtain ⟨e0, h0, rfl⟩ := List.mem_map.1 hx
      exact lt_of_block (h.ents e0 h0).heap
    clear ha c4 c6 hlt hne i0 hi hz0 hz1 hz2 he hids hlen
    have hS : StoreAt wc own bs be bk pl s := h.below hB
    have hK : Kept own w wc := Kept.of_below hB
    go_wp2
    go_loopw [21] (fun i W => ∃ k : Nat, i = .int .i64 k ∧ k ≤ ids.length ∧ StoreAt W own bs be bk pl (s.hold (ids.take k) by_) ∧ Kept own w W ∧
      (∀ (j : Nat) x, (ids.map (Value.int .u64))[j]? = some x → W.cell? ⟨b2, j, none⟩ = some x)) (fun i _ => ids.length - (intOf i).toNat)
    case atStart => exact ⟨0, rfl, Nat.zero_le _, hS, hK, hcell⟩
    case round =>
      obtain ⟨k, rfl, hk, hSk, hKk, hck⟩ := hrel
      have HK := Lib.hid hKk
      clear hKk hcell hS hK hB h
      by_cases hlt : k < ids.length
      · obtain ⟨x, hx⟩ : ∃ x, ids[k]? = some x := ⟨_, List.getElem?_eq_getElem hlt⟩
        have hcx : wr.cell? ⟨b2, k, none⟩ = some (.int .u64 x) := hck k _ (by simp [hx])
        have hc3 := hSk.cells.2.2.2.1
        have HC := Lib.hid hck
        clear hck
        have hsucc : s.hold (ids.take (k + 1)) by_ = (s.hold (ids.take k) by_).upd x (Ent.addHeld by_) := by
          rw [← St.hold_snoc, List.take_add_one, hx]; rfl
        have HS := Lib.hid hsucc
        have HX := Lib.hid hx
        clear hx hsucc
        have hlook := look_entry hSk x false
        have hndk : (s.hold (ids.take k) by_).ids.Nodup := by rw [St.hold_ids]; exact hnd
        cases hf : (s.hold (ids.take k) by_).find x with
        | none =>
          have hupd := St.upd_none (Ent.addHeld by_) hf
          simp only [hf, Option.map_none, lookVal, Option.getD_none, Bool.false_eq_true, if_false] at hlook
          have HF := Lib.hid hf
          have HU := Lib.hid hupd
          clear hf hupd
          go_wp2
          go_roundw
          case rel => exact ⟨k + 1, by go_num, by omega, by rw [HS.out, HU.out]; exact hSk, HK.out, HC.out⟩
          case measure => simp [intOf]; omega
        | some e' =>
          obtain ⟨he', hid'⟩ := St.find_mem hf
          have E' := hSk.ents e' he'
          simp only [hf, Option.map_some, lookVal, Option.getD_some, Bool.false_eq_true, if_false, encP] at hlook
          have hset := hSk.setEnt he' 8 (.int .i64 (wrap64 (e'.held + by_))) (Ent.addHeld by_) (fun _ => rfl) (fun _ => rfl) (fun _ => rfl) (fun _ => rfl) (uniq_of_nodup hndk he') (by simp [cellsOfEnt, Ent.addHeld])
          rw [hid'] at hset hlook E'
          have hc8 := E'.cells.2.2.2.2.2.2.2.2.1
          have hfz := E'.free 8
          have hqb : (pl x).blk ≠ b2 := by
            have hx' : x ∈ s.ids := by
              rw [← hid', ← St.hold_ids (ids.take k) by_]
              exact List.mem_map.2 ⟨e', he', rfl⟩
            have := hold x hx'
            omega
          have hmine := E'.mine
          generalize hq : (pl x).blk = q at *
          have HQ := Lib.hid hq
          have HF := Lib.hid hf
          have HE := Lib.hid he'
          have HD := Lib.hid hid'
          clear hf he' hid' hq E'
          go_wp2
          go_roundw
          case rel =>
            refine ⟨k + 1, by go_num, by omega, by rw [HS.out]; exact hset, HK.out.setCell (.inl hmine) _, fun j y hy => ?_⟩
            rw [World.cell?_setCell_other _ _ _ _ ?_]
            · exact HC.out j y hy
            · intro hh
              simp only [Addr.mk.injEq] at hh
              exact hqb hh.1
          case measure => simp [intOf]; omega
      · have hkn : ids.length ≤ k := by omega
        have hfin : s.hold (ids.take k) by_ = s.hold (e.ret :: e.args) by_ := by rw [HI.out, List.take_of_length_le hkn]
        have HFin := Lib.hid hfin
        clear hfin
        go_wp2
        go_end0
        exact ⟨rfl, by rw [← HFin.out]; exact hSk, HK.out⟩
end Go.Proofs.YtlfongfoddlhjaaDoor
