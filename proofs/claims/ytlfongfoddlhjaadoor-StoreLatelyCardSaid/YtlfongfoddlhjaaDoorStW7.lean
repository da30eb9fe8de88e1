/- New, Len, Pins, Parts, Release. -/
import Derived.Test.YtlfongfoddlhjaaDoorStW3
import Derived.Test.YtlfongfoddlhjaaDoorStW5
import Derived.Test.YtlfongfoddlhjaaDoorStoreG
namespace Go.Lod
open Go Go.RowKit
def St.pinsOf (s : St) (id : Int) : Int := match s.find id with | none => 0 | some e => e.pins
theorem St.Ok.upd {s : St} (h : s.Ok) (id : Int) (f : Ent → Ent) (h1 : ∀ e, (f e).id = e.id) (h2 : ∀ e, (f e).used = e.used) (h3 : ∀ e, (f e).shape = e.shape) (h4 : ∀ e, (f e).args = e.args) : (s.upd id f).Ok :=
  h.of_map (St.upd_map (fun e => (e.id, e.used, e.shape, e.args.length)) s id f fun e => by rw [h1, h2, h3, h4])
end Go.Lod
namespace Go.Proofs.YtlfongfoddlhjaaDoor
open Go Go.RowKit Go.Lod
set_option maxRecDepth 100000

theorem results_tmp5 {fn : Func} {t u v x y : Tmp} (h : fn.results = #[.tmp t, .tmp u, .tmp v, .tmp x, .tmp y]) (tmps : Array Value) (P : Program) (w : World) :
    (results fn tmps).run P w = .ok (.tuple #[tmps.getD t undef, tmps.getD u undef, tmps.getD v undef, tmps.getD x undef, tmps.getD y undef]) w := by
  simp [results, h]

theorem eql_u64s (w : World) (a : Option Addr) (n c n' c' : Nat) : (binOp .eql 47 (.slice a n c) (.slice none n' c')).run Tryd.prog w = .ok (.bool a.isNone) w := Lib.run_eql_slice_nil w _ _ a n c n' c' Tryd.underlying47

theorem clone_u64 {w : World} {S : Nat → Prop} {v : Value} {xs : List Int} (h : SlAt w S 28 v (xs.map (.int .u64))) (hn : xs.length < 2147483648) :
    Calls Tryd.prog 19 #[v] w fun e w' => ∃ v', e = .returned v' ∧ SlAt w' (fun k => w.heap.size ≤ k) 28 v' (xs.map (.int .u64)) ∧ Below w.heap.size w w' := by
  obtain ⟨i0, hi, hz0, hz1, hz2⟩ := info_parts info_u64
  have q := eql_u64s
  have u : ∀ w, Sem.run Tryd.prog (underlying 47) w = .ok (TypeDesc.slice 28) w := run_underlying Tryd.underlying47
  have hmk : ∀ w : World, (w.alloc (.cells #[] 28)).ownsRow w.heap.size 28 1 (.slice (some ⟨w.heap.size, 0, none⟩) 0 0) 0 [] := fun w => World.ownsRow_made w #[] 0 (Nat.le_refl _) (Nat.zero_le _) rfl
  have hone : ∀ u ∈ xs.map (Value.int .u64), u.oneCell' = true := by
    intro u hu
    obtain ⟨x, _, rfl⟩ := List.mem_map.1 hu
    rfl
  by_cases hx : xs = []
  · subst hx
    obtain ⟨a, c, rfl⟩ := h.form
    cases a with
    | none =>
      go_enter Tryd.func19, Tryd.ntmps19
      go_wp2
      go_ret
      exact ⟨_, rfl, .inl ⟨rfl, none, 0, rfl⟩, Below.refl _ _⟩
    | some a =>
      simp only [List.map_nil, List.length_nil]
      go_enter Tryd.func19, Tryd.ntmps19
      go_wp2_with (at_builtin; refine wpList_append_own _ rfl _ _ 47 rfl w.heap.size 28 i0 (.int .u64 0) 1 8 Tryd.underlying47 hi hz0 hz1 hz2 rfl (by decide) _ _ _ rfl (hmk w) a 0 c [] rfl rfl (by intro j u hj; simp at hj) (by intro u hu; cases hu) (by unfold maxLen; omega) (by omega) (by simp) ?_)
      intro v' w1 hown hgrow hnil
      go_wp2
      go_ret
      exact ⟨v', rfl, by simpa using own_slat hown, ((Below.refl _ w).alloc (Nat.le_refl _) _).grown hgrow (by simp) (by intro k hk; simp [Value.ownBlock] at hk; omega)⟩
  · rcases h with ⟨h0, _⟩ | ⟨b, off, c, cur, fz, rfl, h2, h3, h4, h5⟩
    · exact absurd (by simpa using h0) hx
    · have hcell : ∀ (j : Nat) (u : Value), (xs.map (Value.int .u64))[j]? = some u → (w.alloc (.cells #[] 28)).cell? (Addr.add ⟨b, off, none⟩ j) = some u := by
        intro j u hj
        rw [Addr.add_lit]
        refine Lib.cell?_alloc_some _ ?_
        simp only [World.cell?, h4, h5 j u hj, Option.isSome_none, Bool.false_eq_true, if_false]
      have hl : xs.length ≤ maxLen := by unfold maxLen; omega
      simp only [List.length_map] at h2 ⊢
      clear h4 h5
      go_enter Tryd.func19, Tryd.ntmps19
      go_wp2_with (at_builtin; refine wpList_append_own _ rfl _ _ 47 rfl w.heap.size 28 i0 (.int .u64 0) 1 8 Tryd.underlying47 hi hz0 hz1 hz2 rfl (by decide) _ _ _ rfl (hmk w) ⟨b, off, none⟩ xs.length c (xs.map (.int .u64)) rfl (by simp) hcell hone (by simpa using hl) (by omega) (by simp) ?_)
      intro v' w1 hown hgrow hnil
      go_wp2
      go_ret
      exact ⟨v', rfl, by simpa using own_slat hown, ((Below.refl _ w).alloc (Nat.le_refl _) _).grown hgrow (by simp) (by intro k hk; simp [Value.ownBlock] at hk; omega)⟩

theorem new_calls (c : Int) (hc : 0 ≤ c) (w : World) :
    Calls Tryd.prog 5 #[.int .i64 c] w fun e w' => ∃ bs be bk pl, e = .returned (.pointer (some ⟨bs, 0, none⟩)) ∧ StoreAt w' (fun k => k = bs ∨ k = be ∨ k = bk) bs be bk pl ⟨c, 0, 0, []⟩ ∧ Below w.heap.size w w' ∧ w.heap.size ≤ bs ∧ w.heap.size ≤ be ∧ w.heap.size ≤ bk := by
  have hm : max c 0 = c := by omega
  have h1 : ∀ w : World, (Instr.makeMap 51 none).run Tryd.prog w = .ok (.map (some w.heap.size)) (w.alloc (.map #[] 0)) := fun _ => run_makeMap _ _
  have h2 : ∀ w : World, (Instr.makeMap 52 none).run Tryd.prog w = .ok (.map (some w.heap.size)) (w.alloc (.map #[] 0)) := fun _ => run_makeMap _ _
  go_enter Tryd.func5, Tryd.ntmps5
  go_wp2
  go_ret
  refine ⟨w.heap.size + 1 + 1, w.heap.size, w.heap.size + 1, fun _ => ⟨0, .slice none 0 0, .slice none 0 0⟩, rfl, ?_, ((((Below.refl _ w).alloc (Nat.le_refl _) _).alloc (by simp) _).alloc (by simp only [World.size_alloc]; omega) _), by omega, by omega, by omega⟩
  have s1 : (w.alloc (.map #[] 0)).heap.size = w.heap.size + 1 := by simp
  have s2 : ((w.alloc (.map #[] 0)).alloc (.map #[] 0)).heap.size = w.heap.size + 1 + 1 := by simp
  have e1 : (((w.alloc (.map #[] 0)).alloc (.map #[] 0)).alloc (.cells #[.int .i64 c, .int .u64 0, .int .u64 0, .map (some w.heap.size), .map (some (w.heap.size + 1))] 54)).heap[w.heap.size]? = some (.map #[] 0) := by
    rw [heap_alloc_old _ _ (by simp only [World.size_alloc]; omega), heap_alloc_old _ _ (by simp)]; exact heap_alloc_new w _
  have e2 : (((w.alloc (.map #[] 0)).alloc (.map #[] 0)).alloc (.cells #[.int .i64 c, .int .u64 0, .int .u64 0, .map (some w.heap.size), .map (some (w.heap.size + 1))] 54)).heap[w.heap.size + 1]? = some (.map #[] 0) := by
    rw [heap_alloc_old _ _ (by simp), ← s1]; exact heap_alloc_new _ _
  have e3 : (((w.alloc (.map #[] 0)).alloc (.map #[] 0)).alloc (.cells #[.int .i64 c, .int .u64 0, .int .u64 0, .map (some w.heap.size), .map (some (w.heap.size + 1))] 54)).heap[w.heap.size + 1 + 1]? = some (.cells #[.int .i64 c, .int .u64 0, .int .u64 0, .map (some w.heap.size), .map (some (w.heap.size + 1))] 54 (0, 0)) := by
    rw [← s2]; exact heap_alloc_new _ _
  refine ⟨⟨.inl rfl, .inr (.inl rfl), .inr (.inr rfl)⟩, ?_, ?_, e3, ⟨[], 0, e1, rfl, ⟨by simp, by simp⟩⟩, ⟨[], 0, e2, rfl, ⟨by simp, by simp⟩⟩, by simp, by simp, by simp⟩
  · intro k hk; simp only [World.size_alloc]; omega
  · rintro k (rfl | rfl | rfl)
    · rw [e3]; exact .inl rfl
    · rw [e1]; trivial
    · rw [e2]; trivial

theorem len_calls {w : World} {own : Nat → Prop} {bs be bk : Nat} {pl : Int → Site} {s : St} (h : StoreAt w own bs be bk pl s) :
    Calls Tryd.prog 9 #[.pointer (some ⟨bs, 0, none⟩)] w fun e w' => e = .returned (.int .i64 s.ents.length) ∧ w' = w := by
  have c3 := h.cells.2.2.2.1
  have hn := none_false c3
  have hlen : (Builtin.len_ #[51] 3 #[.map (some be)]).run Tryd.prog w = .ok (.int .i64 s.ents.length) w := by
    obtain ⟨l, clk, he, hl, hborn, hlook⟩ := h.look_id
    have := run_len_map_at (P := Tryd.prog) he Tryd.underlying51 3
    rw [this]
    have hll := congrArg List.length hl
    simp only [List.length_map] at hll
    rw [hll]
  clear h
  go_enter Tryd.func9, Tryd.ntmps9
  go_wp2_with (go_at_call 14; refine hn.mono ?_; clear hn; rintro e w2 ⟨rfl, rfl⟩)
  go_ret
  exact ⟨rfl, rfl⟩

theorem pins_calls {w : World} {own : Nat → Prop} {bs be bk : Nat} {pl : Int → Site} {s : St} (h : StoreAt w own bs be bk pl s) (id : Int) :
    Calls Tryd.prog 10 #[.pointer (some ⟨bs, 0, none⟩), .int .u64 id] w fun e w' => e = .returned (.int .i64 (s.pinsOf id)) ∧ w' = w := by
  have c3 := h.cells.2.2.2.1
  have hn := none_false c3
  have hlook := look_entry h id false
  cases hf : s.find id with
  | none =>
    simp only [hf, Option.map_none, lookVal, Option.getD_none, Bool.false_eq_true, if_false] at hlook
    have hp : s.pinsOf id = 0 := by simp [St.pinsOf, hf]
    rw [hp]
    clear h hf hp
    go_enter Tryd.func10, Tryd.ntmps10
    go_wp2_with (go_at_call 14; refine hn.mono ?_; clear hn; rintro e w2 ⟨rfl, rfl⟩)
    go_ret
    exact ⟨rfl, rfl⟩
  | some e =>
    simp only [hf, Option.map_some, lookVal, Option.getD_some, Bool.false_eq_true, if_false, encP] at hlook
    have hp : s.pinsOf id = e.pins := by simp [St.pinsOf, hf]
    rw [hp]
    obtain ⟨hm, hid⟩ := St.find_mem hf
    have E := h.ents e hm
    rw [hid] at E hlook
    have c7 := E.cells.2.2.2.2.2.2.2.1
    clear h hf hp hid E hm
    go_enter Tryd.func10, Tryd.ntmps10
    go_wp2_with (go_at_call 14; refine hn.mono ?_; clear hn; rintro e w2 ⟨rfl, rfl⟩)
    go_ret
    exact ⟨rfl, rfl⟩

theorem release_calls {w : World} {own : Nat → Prop} {bs be bk : Nat} {pl : Int → Site} {s : St} (h : StoreAt w own bs be bk pl s) (hok : s.Ok) (id : Int) :
    Calls Tryd.prog 13 #[.pointer (some ⟨bs, 0, none⟩), .int .u64 id] w fun e w' => e = .returned (.int .i64 (s.release id).2) ∧ StoreAt w' own bs be bk pl (s.release id).1 ∧ Kept own w w' := by
  have c3 := h.cells.2.2.2.1
  have hn := none_false c3
  have hlook := look_entry h id true
  cases hf : s.find id with
  | none =>
    simp only [hf, Option.map_none, lookVal, Option.getD_none, if_true, Option.isSome_none] at hlook
    have hp : s.release id = (s, 5) := by simp [St.release, hf]
    rw [hp]
    have H := Lib.hid h
    clear h hf hp
    go_enter Tryd.func13, Tryd.ntmps13
    go_wp2_with (go_at_call 14; refine hn.mono ?_; clear hn; rintro e w2 ⟨rfl, rfl⟩)
    go_ret
    exact ⟨rfl, H.out, Kept.refl _ _⟩
  | some e =>
    simp only [hf, Option.map_some, lookVal, Option.getD_some, if_true, encP, Option.isSome_some] at hlook
    obtain ⟨hm, hid⟩ := St.find_mem hf
    have E := h.ents e hm
    rw [hid] at E hlook
    have c7 := E.cells.2.2.2.2.2.2.2.1
    have f7 := E.free 7
    have H := Lib.hid (And.intro h (And.intro hf (And.intro hm hid)))
    have hset := h.setEnt hm 7 (.int .i64 (wrap64 (e.pins - 1))) (Ent.addPins (-1)) (fun _ => rfl) (fun _ => rfl) (fun _ => rfl) (fun _ => rfl) (uniq_of_nodup hok.nd hm) (by simp [cellsOfEnt, Ent.addPins]; rfl)
    rw [hid] at hset
    have hk := (Kept.refl own w).setCell (p := ⟨(pl id).blk, 7, none⟩) (.inl E.mine) (.int .i64 (wrap64 (e.pins - 1)))
    clear h hf hid E hm
    by_cases hz : e.pins = 0
    · have hp : s.release id = (s, 2) := by simp [St.release, H.out.2.1, hz]
      have hd : (e.pins == 0) = true := beq_iff_eq.2 hz
      rw [hp]
      have HZ := Lib.hid hz
      clear hz hp hset hk
      go_enter Tryd.func13, Tryd.ntmps13
      go_wp2_with (go_at_call 14; refine hn.mono ?_; clear hn; rintro e w2 ⟨rfl, rfl⟩)
      go_ret
      exact ⟨rfl, H.out.1, Kept.refl _ _⟩
    · have hp : s.release id = ((s.upd id (Ent.addPins (-1))).room, 0) := by simp [St.release, H.out.2.1, hz]
      have hd : (e.pins == 0) = false := beq_eq_false_iff_ne.2 hz
      rw [hp]
      have HZ := Lib.hid hz
      have hroom := room_calls hset (hok.upd id (Ent.addPins (-1)) (fun _ => rfl) (fun _ => rfl) (fun _ => rfl) (fun _ => rfl))
      have HK := Lib.hid hk
      clear hz hp hset hk
      go_enter Tryd.func13, Tryd.ntmps13
      go_wp2_with (first | (go_at_call 14; refine hn.mono ?_; clear hn; rintro e w2 ⟨rfl, rfl⟩) | (go_at_call 18; refine hroom.mono ?_; clear hroom; rintro e w3 ⟨rfl, hS3, hK3⟩))
      go_ret
      exact ⟨rfl, hS3, HK.out.trans hK3 (fun _ h => .inl h)⟩

theorem parts_calls {w : World} {own : Nat → Prop} {bs be bk : Nat} {pl : Int → Site} {s : St} (h : StoreAt w own bs be bk pl s) {id : Int} {e : Ent} (hf : s.find id = some e) (hn1 : e.names.length < 2147483648) (hn2 : e.args.length < 2147483648) :
    Calls Tryd.prog 12 #[.pointer (some ⟨bs, 0, none⟩), .int .u64 id] w fun r w' => ∃ nv av, r = .returned (.tuple #[.int .i64 e.kind, .string e.name, nv, av, .int .u64 e.ret]) ∧
      SlAt w' (fun k => w.heap.size ≤ k) 9 nv (e.names.map .string) ∧ SlAt w' (fun k => w.heap.size ≤ k) 28 av (e.args.map (.int .u64)) ∧ Below w.heap.size w w' := by
  have c3 := h.cells.2.2.2.1
  have hn := none_false c3
  have hlook := look_entry h id false
  simp only [hf, Option.map_some, lookVal, Option.getD_some, Bool.false_eq_true, if_false, encP] at hlook
  obtain ⟨hm, hid⟩ := St.find_mem hf
  have E := h.ents e hm
  rw [hid] at E hlook
  have hlt : (pl id).blk < w.heap.size := lt_of_block E.heap
  obtain ⟨c0, c1, -, -, c4, c5, c6, -⟩ := E.cells
  have hc1 := fun (W : World) (hB : Below w.heap.size w W) => clone_names (E.names.kept (w' := W) (S' := own) fun k o hk ho => ⟨by rw [hB.block k (lt_of_block ho)]; exact ho, hk⟩) hn1
  have hc2 := fun (W : World) (hB : Below w.heap.size w W) => clone_u64 (E.args.kept (w' := W) (S' := own) fun k o hk ho => ⟨by rw [hB.block k (lt_of_block ho)]; exact ho, hk⟩) hn2
  clear h hf hid E hm
  generalize (pl id).blk = eb at *
  go_enter Tryd.func12, Tryd.ntmps12
  go_upto_region 4 with (go_at_call 14; refine hn.mono ?_; clear hn; rintro e0 w0 ⟨rfl, rfl⟩)
  have d0 : w0.drew.cell? ⟨eb, 0, none⟩ = some (.int .i64 e.kind) := c0
  have d1 : w0.drew.cell? ⟨eb, 1, none⟩ = some (.string e.name) := c1
  have d4 : w0.drew.cell? ⟨eb, 4, none⟩ = some (.int .u64 e.ret) := c4
  have d5 : w0.drew.cell? ⟨eb, 5, none⟩ = some (pl id).nv := c5
  have d6 : w0.drew.cell? ⟨eb, 6, none⟩ = some (pl id).av := c6
  go_region_held3 (fun W => W.cell? ⟨eb, 0, none⟩ = some (.int .i64 e.kind) ∧ W.cell? ⟨eb, 1, none⟩ = some (.string e.name) ∧ W.cell? ⟨eb, 4, none⟩ = some (.int .u64 e.ret) ∧ W.cell? ⟨eb, 5, none⟩ = some (pl id).nv ∧ W.cell? ⟨eb, 6, none⟩ = some (pl id).av)
    (first | (with_reducible exact ⟨d0, d1, d4, d5, d6⟩) | (with_reducible exact ⟨k0, k1, k4, k5, k6⟩) | (with_reducible exact ⟨m0, m1, m4, m5, m6⟩))
    ((first | (go_at_call 15; refine (hc1 _ ((Below.refl _ _).drew)).mono ?_; clear hc1; rintro e1 w1 ⟨nv1, rfl, hs1, hB1⟩; have k0 := (hB1.cell (p := ⟨eb, 0, none⟩) hlt).trans c0; have k1 := (hB1.cell (p := ⟨eb, 1, none⟩) hlt).trans c1; have k4 := (hB1.cell (p := ⟨eb, 4, none⟩) hlt).trans c4; have k5 := (hB1.cell (p := ⟨eb, 5, none⟩) hlt).trans c5; have k6 := (hB1.cell (p := ⟨eb, 6, none⟩) hlt).trans c6; have hB1' := (Below.refl w0.heap.size w0).drew.trans hB1) | (go_at_call 19; refine (hc2 _ hB1').mono ?_; clear hc2; rintro e2 w2 ⟨av1, rfl, hs2, hB2⟩; have hl1 := Nat.lt_of_lt_of_le hlt hB1.size; have m0 := (hB2.cell (p := ⟨eb, 0, none⟩) hl1).trans k0; have m1 := (hB2.cell (p := ⟨eb, 1, none⟩) hl1).trans k1; have m4 := (hB2.cell (p := ⟨eb, 4, none⟩) hl1).trans k4; have m5 := (hB2.cell (p := ⟨eb, 5, none⟩) hl1).trans k5; have m6 := (hB2.cell (p := ⟨eb, 6, none⟩) hl1).trans k6)))
  go_wp2
  (try simp only [Exit.inBlock, Exit.then])
  refine bodyPost_ret (results_tmp5 rfl _ _ _) rfl ?_
  refine ⟨nv1, av1, rfl, hs1.kept fun k o hk ho => ⟨by rw [hB2.block k (lt_of_block ho)]; exact ho, hk⟩, hs2.kept fun k o hk ho => ⟨ho, Nat.le_trans hB1'.size hk⟩, hB1'.trans (hB2.mono hB1'.size)⟩
end Go.Proofs.YtlfongfoddlhjaaDoor
