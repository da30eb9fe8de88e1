/- The walk of the store's Type, for an entry that is there. -/
import Derived.Test.YtlfongfoddlhjaaDoorStW9
namespace Go.Proofs.YtlfongfoddlhjaaDoor
open Go Go.RowKit Go.Lod
set_option maxRecDepth 100000

def THead (w : World) (eb : Nat) (k : Int) (nm : ByteArray) (nvv : Value) (ns : List ByteArray) (gs : List Ty) (i : Value) (W : World) : Prop :=
  ∃ (j : Nat) (av : Value) (ps : List Value), i = .int .i64 j ∧ j ≤ gs.length ∧ TInv w eb k nm nvv ns gs j av ps W

set_option maxHeartbeats 4000000 in
theorem type_step (bs be bk : Nat) (k : Int) (nm : ByteArray) (ns : List ByteArray) (gs : List Ty) (r : Ty) (ihg : ∀ t ∈ gs, TypeAt bs be bk t) (ihr : TypeAt bs be bk r) : TypeAt bs be bk (.mk k nm ns gs r) := by
  intro w own pl s id h hr hf
  obtain ⟨e, hfd, rfl, rfl, rfl, hrl, hrr⟩ := hr
  obtain ⟨hf1, hf2, hf3, hf4, hf5⟩ := hf
  have c3 := h.cells.2.2.2.1
  have hn := none_false c3
  have hlook := look_entry h id false
  simp only [hfd, Option.map_some, lookVal, Option.getD_some, Bool.false_eq_true, if_false, encP] at hlook
  obtain ⟨hm, hid⟩ := St.find_mem hfd
  have E := h.ents e hm
  rw [hid] at E hlook
  have hlt : (pl id).blk < w.heap.size := lt_of_block E.heap
  obtain ⟨c0, c1, -, -, c4, c5, c6, -⟩ := E.cells
  have hav := E.args
  have hc1 := fun (W : World) (hB : Below w.heap.size w W) => clone_names (E.names.kept (w' := W) (S' := own) fun k o hk ho => ⟨by rw [hB.block k (lt_of_block ho)]; exact ho, hk⟩) hf1
  have hlen : e.args.length = gs.length := hrl.length
  obtain ⟨aa, ac, hav0⟩ := hav.form
  rw [List.length_map, hlen] at hav0
  rw [hav0] at c6 hav
  obtain ⟨i0, hi, hz0, hz1, hz2⟩ := info_parts info_ptr
  have HE := Lib.hid (And.intro h (And.intro hm (And.intro hid (And.intro hrl (And.intro hrr (And.intro hav hlen))))))
  clear h hfd hid E hm hrl hrr hav hav0 hlen
  generalize (pl id).blk = xb at *
  go_enter Tryd.func7, Tryd.ntmps7
  go_upto_region 4 with (go_at_call 14; refine hn.mono ?_; clear hn; rintro e0 w0 ⟨rfl, hw0⟩; obtain rfl := hw0.symm)
  have d0 : w.drew.cell? ⟨xb, 0, none⟩ = some (.int .i64 e.kind) := c0
  have d1 : w.drew.cell? ⟨xb, 1, none⟩ = some (.string e.name) := c1
  have d5 : w.drew.cell? ⟨xb, 5, none⟩ = some (pl id).nv := c5
  go_region_held3 (fun W => W.cell? ⟨xb, 0, none⟩ = some (.int .i64 e.kind) ∧ W.cell? ⟨xb, 1, none⟩ = some (.string e.name) ∧ W.cell? ⟨xb, 5, none⟩ = some (pl id).nv)
    (first | (with_reducible exact ⟨d0, d1, d5⟩) | (with_reducible exact ⟨k0, k1, k5⟩) | (exact ⟨(World.cell?_alloc_old _ _ _ (by show xb ≠ _; omega)).trans k0, (World.cell?_alloc_old _ _ _ (by show xb ≠ _; omega)).trans k1, (World.cell?_alloc_old _ _ _ (by show xb ≠ _; omega)).trans k5⟩))
    ((go_at_call 15; refine (hc1 _ ((Below.refl _ _).drew)).mono ?_; clear hc1; rintro e1 w1 ⟨nv1, rfl, hs1, hB1⟩; obtain ⟨na, nc, hnvf⟩ := hs1.form; rw [List.length_map] at hnvf; subst hnvf; have k0 := (hB1.cell (p := ⟨xb, 0, none⟩) hlt).trans c0; have k1 := (hB1.cell (p := ⟨xb, 1, none⟩) hlt).trans c1; have k5 := (hB1.cell (p := ⟨xb, 5, none⟩) hlt).trans c5; have hB1' := (Below.refl w.heap.size w).drew.trans hB1; have hl1 := Nat.lt_of_lt_of_le hlt hB1.size))
  obtain ⟨h, hm, hid, hrl, hrr, hav, hlen⟩ := HE.out
  have hbl : Below w.heap.size w (w1.alloc (.cells #[.int .i64 e.kind, .string e.name, .slice na e.names.length nc, .slice none 0 0, .pointer none] 43)) := hB1'.alloc hB1.size _
  have hstart : THead w w1.heap.size e.kind e.name (.slice na e.names.length nc) e.names gs (.int .i64 0) (w1.alloc (.cells #[.int .i64 e.kind, .string e.name, .slice na e.names.length nc, .slice none 0 0, .pointer none] 43)) := by
    refine ⟨0, .slice none 0 0, [], rfl, Nat.zero_le _, hbl, hB1.size, alc_new w1 _, ?_, ⟨rfl, .inl ⟨rfl, rfl⟩⟩, rfl⟩
    exact hs1.kept fun i o hi ho => ⟨by rw [alc_old _ _ (lt_of_block ho)]; exact ho, hi, lt_of_block ho⟩
  have cc6 : (w1.alloc (.cells #[.int .i64 e.kind, .string e.name, .slice na e.names.length nc, .slice none 0 0, .pointer none] 43)).cell? ⟨xb, 6, none⟩ = some (.slice aa gs.length ac) := (hbl.cell (p := ⟨xb, 6, none⟩) hlt).trans c6
  generalize (Value.slice na e.names.length nc) = nvv at *
  generalize w1.alloc (.cells #[.int .i64 e.kind, .string e.name, nvv, .slice none 0 0, .pointer none] 43) = W0 at *
  generalize w1.heap.size = eb at *
  clear hbl hB1 hB1' hs1 d0 d1 d5 k0 k1 k5
  go_wp2
  go_loopw [51] (THead w eb e.kind e.name nvv e.names gs) (fun i _ => gs.length - (intOf i).toNat)
  case atStart => exact hstart
  case round =>
    clear hstart
    obtain ⟨j, av, ps, rfl, hj, hI⟩ := hrel
    have hSr := h.below hI.kept
    have HS := Lib.hid (And.intro hSr (And.intro hI (And.intro hj hm)))
    by_cases hlt' : j < gs.length
    · obtain ⟨t, ht⟩ : ∃ t, gs[j]? = some t := ⟨_, List.getElem?_eq_getElem hlt'⟩
      have htm : t ∈ gs := List.mem_of_getElem? ht
      obtain ⟨x, hx, hrx⟩ := hrl.get j t ht
      have hxm : (e.args.map (Value.int .u64))[j]? = some (.int .u64 x) := by simp [hx]
      obtain ⟨ab, aoff, rfl, hcell⟩ := slAt_cell (hav.kept (w' := wr) (S' := own) fun i o hi ho => ⟨by rw [hI.kept.block i (lt_of_block ho)]; exact ho, hi⟩) hxm
      have hcall := ihg t htm wr own pl s x hSr hrx (fits_mem' hf4 htm).2
      have hb1 : j + 1 ≤ maxLen := by unfold maxLen; omega
      have hb2 : (j + 1) * 8 ≤ 140737488355328 := by omega
      have HT := Lib.hid ht
      clear hI hSr hrl hrr hav hx hrx hxm htm ht ihg ihr hm hid hlen h hf1 hf2 hf3 hf4 hf5 cc6 c0 c1 c3 c4 c5 c6 hlook hl1
      go_wp2_with (first | (go_at_call 7; refine hcall.mono ?_; clear hcall hcell; rintro e2 w2 ⟨p, rfl, hp, hB2⟩; have hI2 := HS.out.2.1.later hB2; obtain ⟨pp, hpp⟩ := tyAt_ptr hp; subst hpp; have k3 : w2.cell? ⟨eb, 3, none⟩ = some av := cellq hI2.blk; have hlt2 : eb < w2.heap.size := lt_of_block hI2.blk) | (at_builtin; refine wpList_append_lies _ rfl (.tmp 65) (.tmp 67) 41 rfl w.heap.size 33 i0 (.pointer none) 1 8 Tryd.underlying41 hi hz0 hz1 hz2 rfl (by decide) av j ps rfl (hI2.row.alloc _) ⟨w2.heap.size, 0, none⟩ 1 1 [.pointer pp] rfl rfl (cell_one_new _ _ _) (fun u hu => by simp only [List.mem_cons, List.not_mem_nil, or_false] at hu; subst hu; rfl) (by decide) hb1 hb2 (by have := hI2.kept.size; simp only [World.size_alloc]; omega) (w2.heap.size + 1) (by simp) ?_; intro g cap w3 hown3 hgrow3 hgg3 hlt3; have hb3 := hI2.grown hgrow3; have k33 : w3.cell? ⟨eb, 3, none⟩ = some av := cellq hb3; have f33 : w3.frozen? ⟨eb, 3, none⟩ = false := frozq hb3; have HR := Lib.hid (And.intro hown3 (And.intro hgrow3 (And.intro hgg3 hI2))); clear hb3 hown3 hgrow3 hgg3 hI2))
      obtain ⟨hown3, hgrow3, hgg3, hI2⟩ := HR.out
      have hIr := HS.out.2.1
      refine ⟨⟨j + 1, _, ps ++ [.pointer pp], by go_num, by omega, hI2.push HT.out hp hIr.kept.size (lt_of_block hIr.blk) (fun g hg => ?_) hown3 hgrow3 hgg3⟩, by simp [intOf]; omega⟩
      obtain ⟨cu', hc', _⟩ := ownsRow_kind hIr.row hg
      exact lt_of_block hc'
    · obtain rfl : j = gs.length := by omega
      have c4r : wr.cell? ⟨xb, 4, none⟩ = some (.int .u64 e.ret) := (hI.kept.cell (p := ⟨xb, 4, none⟩) hlt).trans c4
      have hcall := ihr wr own pl s e.ret hSr hrr hf5
      clear hI hSr hrl hrr hav ihg ihr hm hid hlen h hf1 hf2 hf3 hf4 hf5 cc6 c0 c1 c3 c4 c5 c6 hlook hl1
      go_wp2_with (go_at_call 7; refine hcall.mono ?_; clear hcall; rintro e2 w2 ⟨p, rfl, hp, hB2⟩; have hI2 := HS.out.2.1.later hB2; obtain ⟨pp, hpp⟩ := tyAt_ptr hp; subst hpp; have k4 : w2.cell? ⟨eb, 4, none⟩ = some (.pointer none) := cellq hI2.blk; have f4 : w2.frozen? ⟨eb, 4, none⟩ = false := frozq hI2.blk; have HI := Lib.hid (And.intro hI2 hp); clear hI2 hp)
      go_ret2
      obtain ⟨hI2, hp⟩ := HI.out
      have hIr := HS.out.2.1
      have hset : ∀ i o, i ≠ eb → w2.heap[i]? = some o → (w2.setCell ⟨eb, 4, none⟩ (.pointer pp)).heap[i]? = some o := fun i o hi ho => by rw [Below.heap_setCell _ _ _ _ hi]; exact ho
      have heb : eb < wr.heap.size := lt_of_block hIr.blk
      have htys := hI2.tys
      rw [List.take_length] at htys
      refine ⟨_, rfl, ⟨eb, nvv, av, .pointer pp, rfl, hI2.ebl, ?_, ?_, ⟨ps, ?_, ?_⟩, ?_⟩, hI2.kept.setCell (p := ⟨eb, 4, none⟩) hI2.ebl _⟩
      · rw [Go.Lod.heap_setCell_same hI2.blk]; simp
      · exact hI2.names.kept fun i o hi ho => ⟨hset i o (by omega) ho, hi.1⟩
      · refine own_slat (ownsRow_same hI2.row fun g o hg ho => hset g o ?_ ho)
        rintro rfl
        obtain ⟨cu', hc', _⟩ := ownsRow_kind hI2.row hg
        rw [hI2.blk] at hc'
        simp at hc'
      · exact TysAt.kept (fun i o hi ho => ⟨hset i o hi.2.1 ho, hi.1⟩) _ _ htys
      · exact hp.kept fun i o hi ho => ⟨hset i o (by omega) ho, by have := hIr.kept.size; omega⟩

theorem type_all (bs be bk : Nat) : ∀ (n : Nat) (T : Ty), T.size ≤ n → TypeAt bs be bk T
  | _, .nil, _ => type_nil bs be bk
  | 0, .mk .., h => by simp [Ty.size] at h
  | n + 1, .mk k nm ns gs r, h => by
    simp only [Ty.size] at h
    exact type_step bs be bk k nm ns gs r (fun t ht => type_all bs be bk n t (by have := Ty.size_mem ht; omega)) (type_all bs be bk n r (by omega))
theorem type_calls (bs be bk : Nat) (T : Ty) : TypeAt bs be bk T := type_all bs be bk T.size T (Nat.le_refl _)
end Go.Proofs.YtlfongfoddlhjaaDoor
