/- The walk of the store's 'room'. -/
import Derived.Test.YtlfongfoddlhjaaDoorStW2
import Derived.StillTailTactics
namespace Go.Lod
open Go Go.RowKit
/-- the runs of room that may still come -/
def RoomTo (s s' : St) : Prop := ∃ n, s'.ents.length ≤ n ∧ s.room = St.roomN n s'
theorem RoomTo.start (s : St) : RoomTo s s := ⟨_, Nat.le_refl _, rfl⟩
theorem St.evict_length {s : St} {e : Ent} (h : s.find e.id = some e) : (s.evict e).ents.length < s.ents.length := by
  unfold St.evict
  have hl : (s.hold (e.ret :: e.args) (-1)).ents.length = s.ents.length := by
    have := congrArg List.length (St.hold_map (fun e => e.id) (-1) (fun _ => rfl) (e.ret :: e.args) s)
    simpa using this
  rw [← hl]
  refine List.length_filter_lt_length_iff_exists.2 ?_
  obtain ⟨h', hf⟩ := St.hold_find (-1) (e.ret :: e.args) s e h
  exact ⟨_, (St.find_mem hf).1, by simp⟩
theorem RoomTo.step {s s' : St} {e : Ent} (h : RoomTo s s') (hc : s'.cap < (s'.ents.length : Int)) (hl : s'.least = some e) (hf : s'.find e.id = some e) : RoomTo s (s'.evict e) := by
  obtain ⟨n, hn, hr⟩ := h
  have hlen := St.evict_length hf
  cases n with
  | zero => omega
  | succ n =>
    refine ⟨n, by omega, ?_⟩
    rw [hr, St.roomN, if_neg (by omega), hl]
theorem RoomTo.stop {s s' : St} (h : RoomTo s s') (hs : ¬ s'.cap < (s'.ents.length : Int) ∨ s'.least = none) : s.room = s' := by
  obtain ⟨n, hn, hr⟩ := h
  rw [hr]
  cases n with
  | zero => rfl
  | succ n =>
    rw [St.roomN]
    by_cases hc : (s'.ents.length : Int) ≤ s'.cap
    · rw [if_pos hc]
    · rw [if_neg hc]
      rcases hs with hs | hs
      · omega
      · rw [hs]
end Go.Lod
namespace Go.Proofs.YtlfongfoddlhjaaDoor
open Go Go.RowKit Go.Lod
open Go.ChangeMaps (setBlock)
set_option maxHeartbeats 400000
set_option maxRecDepth 100000

attribute [local go_sem] encP

def mapSize (b : Nat) (w : World) : Nat := match w.heap[b]? with | some (.map es _) => es.size | _ => 0

theorem mapSize_store {w : World} {own : Nat → Prop} {bs be bk : Nat} {pl : Int → Site} {s : St} (h : StoreAt w own bs be bk pl s) : mapSize be w = s.ents.length := by
  obtain ⟨l, clk, h1, h2, _⟩ := h.entries
  unfold mapSize
  rw [h1]
  have := congrArg List.length h2
  simp only [List.length_map] at this
  simp only [mEs_size, this]

theorem room_calls {w : World} {own : Nat → Prop} {bs be bk : Nat} {pl : Int → Site} {s : St} (h : StoreAt w own bs be bk pl s) (hok : s.Ok) :
    Calls Tryd.prog 18 #[.pointer (some ⟨bs, 0, none⟩)] w fun r w' => r = .returned (.tuple #[]) ∧ StoreAt w' own bs be bk pl s.room ∧ Kept own w w' := by
  have hnb : ¬ own w.heap.size := fun ho => by have := h.low _ ho; omega
  go_enter Tryd.func18, Tryd.ntmps18
  go_wp2
  go_loopw [3] (fun _ W => ∃ s', StoreAt W own bs be bk pl s' ∧ s'.Ok ∧ RoomTo s s' ∧ Kept own w W ∧ W.cell? ⟨w.heap.size, 0, none⟩ = some (.pointer (some ⟨bs, 0, none⟩)) ∧ w.heap.size < W.heap.size) (fun _ W => mapSize be W)
  case atStart =>
    have hb : Below w.heap.size w (w.alloc (.cells #[.pointer (some ⟨bs, 0, none⟩)] 24)) := (Below.refl _ w).alloc (Nat.le_refl _) _
    exact ⟨s, h.below hb, hok, .start s, Kept.of_below hb, by simp, by simp⟩
  case round =>
    obtain ⟨s', hS, hok', hto, hK, hbx, hlt⟩ := hrel
    have hlen : ∀ n, (Builtin.len_ #[51] 3 #[.map (some be)]).run Tryd.prog (wr.drewN n) = .ok (.int .i64 s'.ents.length) (wr.drewN n) := by
      intro n
      obtain ⟨l, clk, he, hl, hborn, hlook⟩ := (hS.kept (w' := wr.drewN n) (fun k _ => rfl) (Nat.le_refl _)).look_id
      have := run_len_map_at (P := Tryd.prog) he Tryd.underlying51 3
      rw [this]
      have hll := congrArg List.length hl
      simp only [List.length_map] at hll
      rw [hll]
    have c0 := hS.cells.1
    have c3 := hS.cells.2.2.2.1
    by_cases hcap : s'.cap < s'.ents.length
    · have hd : decide (s'.cap < (s'.ents.length : Int)) = true := decide_eq_true hcap
      have HC := Lib.hid hcap
      clear hcap
      go_wp2
      go_quiet (fail)
      have hS1 : StoreAt (wr.drewN nq) own bs be bk pl s' := hS.kept (fun k _ => rfl) (Nat.le_refl _)
      have hK1 : Kept own w (wr.drewN nq) := ⟨hK.os, hK.tape, hK.output, hK.size, hK.block⟩
      have hbx1 : (wr.drewN nq).cell? ⟨w.heap.size, 0, none⟩ = some (.pointer (some ⟨bs, 0, none⟩)) := by rw [World.cell?_drewN]; exact hbx
      have hlt1 : w.heap.size < (wr.drewN nq).heap.size := hlt
      have hms : mapSize be wr = s'.ents.length := mapSize_store hS
      have HMS := Lib.hid hms
      clear hms
      clear hS hK hbx hlt hlen hd c0 c3
      generalize wr.drewN nq = W1 at *
      have hcall := loose_calls hS1 hok'.nd hok'.nz hok'.us hbx1
      cases hl : s'.least with
      | none =>
        have hid : s'.leastId = 0 := by simp [St.leastId, hl]
        rw [hid] at hcall
        have HL := Lib.hid hl
        clear hl hid
        go_wp2_with (go_at_call 27; refine hcall.mono ?_; rintro e w2 ⟨rfl, hB2⟩)
        refine bodyPost_ret (results_none rfl _ _ _) rfl ?_
        exact ⟨rfl, by rw [hto.stop (.inr HL.out)]; exact hS1.below hB2, hK1.trans (own' := fun _ => False) (Kept.of_below hB2) (fun _ h => h.elim)⟩
      | some e =>
        have hid : s'.leastId = e.id := by simp [St.leastId, hl]
        rw [hid] at hcall
        have hmem : e ∈ s'.ents := ((leastL_spec s'.ents).2 e hl).1
        have hne : (e.id == 0) = false := beq_eq_false_iff_ne.2 (hok'.nz e hmem)
        have HL := Lib.hid hl
        have HM := Lib.hid hmem
        clear hl hid hmem
        have hold := fun w2 (hS2 : StoreAt w2 own bs be bk pl s') => hold_calls hS2 HM.out hok'.nd (-1) (hok'.ln e HM.out)
        have hfind := St.find_of_mem hok'.nd HM.out
        have HF := Lib.hid hfind
        clear hfind
        go_wp2_with (first | (go_at_call 27; refine hcall.mono ?_; clear hcall; rintro e2 w2 ⟨rfl, hB2⟩; have hS2 := hS1.below hB2; have hlk := look_entry hS2 e.id false; rw [HF.out] at hlk; simp only [Option.map_some, lookVal, Option.getD_some, Bool.false_eq_true, if_false] at hlk; have hbx2 := (hB2.cell (World.block_lt_of_cell? _ _ hbx1)).trans hbx1; have hc32 := hS2.cells.2.2.2.1; have hc42 := hS2.cells.2.2.2.2) | (go_at_call 26; refine (hold w2 hS2).mono ?_; clear hold hlk hc32 hc42; rintro e3 w3 ⟨rfl, hS3, hK3⟩))
        obtain ⟨h', hf3⟩ := St.hold_find (-1) (e.ret :: e.args) s' e HF.out
        have hmem3 := (St.find_mem hf3).1
        have E3 := hS3.ents _ hmem3
        have hbx3 : w3.cell? ⟨w.heap.size, 0, none⟩ = some (.pointer (some ⟨bs, 0, none⟩)) := (World.cell?_of_block (hK3.block _ (show w.heap.size < w2.heap.size by have := hB2.size; omega) hnb)).trans hbx2
        obtain ⟨l', clk', hk3, hl', hborn', _⟩ := hS3.look_shape
        obtain ⟨l, clk, he3, hl, hborn, _⟩ := hS3.look_id
        obtain ⟨W4, hdel1, hk4, hoth4, hsz4, hos4, htp4, hou4⟩ := delete_world (P := Tryd.prog) (w := w3.drew) keyShape Tryd.underlying52 hk3 e.shape 0
        have he4 : W4.heap[be]? = some (.map (mEs (.int .u64) encP l) clk) := (hoth4 be hS3.maps).trans he3
        obtain ⟨W5, hdel2, hk5, hoth5, hsz5, hos5, htp5, hou5⟩ := delete_world (P := Tryd.prog) (w := W4) keyU Tryd.underlying51 he4 e.id 0
        have hx0 := E3.cells.1
        have hx1 := E3.cells.2.1
        have hx2 := E3.cells.2.2.1
        have hx3 := E3.cells.2.2.2.1
        have hx4 := E3.cells.2.2.2.2.1
        have hm4 := hS3.cells.2.2.2.2
        have hbx4 : W4.cell? ⟨w.heap.size, 0, none⟩ = some (.pointer (some ⟨bs, 0, none⟩)) :=
          (World.cell?_of_block (hoth4 _ (fun hh : w.heap.size = bk => hnb (hh ▸ hS3.mine.2.2)))).trans hbx3
        have hm3 : W4.cell? ⟨bs, 3, none⟩ = some (.map (some be)) :=
          (World.cell?_of_block (hoth4 _ (fun hh : bs = bk => by have := hS3.main; rw [hh, hk3] at this; simp at this))).trans hS3.cells.2.2.2.1
        have hfin : StoreAt W5 own bs be bk pl (s'.evict e) := by
          have hok3 := hok'.hold (e.ret :: e.args) (-1)
          exact hS3.drop (e := { e with held := h' }) hmem3 hok3.nd hok3.sh hl hborn hl' hborn' hk5 ((hoth5 bk (Ne.symm hS3.maps)).trans hk4) (fun k h1 h2 => (hoth5 k h1).trans (hoth4 k h2)) (hsz5.trans hsz4)
        have hKfin : Kept own w W5 := by
          refine ((hK1.trans (own' := fun _ => False) (Kept.of_below hB2) (fun _ h => h.elim)).trans hK3 (fun _ h => .inl h)).trans (own' := own) ?_ (fun _ h => .inl h)
          exact ⟨hos5.trans hos4, htp5.trans htp4, hou5.trans hou4, by rw [hsz5, hsz4]; exact Nat.le_refl _, fun k _ hn => (hoth5 k (fun hh => hn (hh ▸ hS3.mine.2.1))).trans (hoth4 k (fun hh => hn (hh ▸ hS3.mine.2.2)))⟩
        have hbx5 : W5.cell? ⟨w.heap.size, 0, none⟩ = some (.pointer (some ⟨bs, 0, none⟩)) :=
          (World.cell?_of_block (hoth5 _ (fun hh : w.heap.size = be => hnb (hh ▸ hS3.mine.2.1)))).trans hbx4
        have hlt5 : w.heap.size < W5.heap.size := by
          have := hB2.size; have := hK3.size; have e4 : w3.drew.heap.size = w3.heap.size := rfl
          omega
        have HFIN := Lib.hid (And.intro hfin (And.intro hKfin (And.intro hbx5 hlt5)))
        clear hbx2 hS2 hB2 hS1 hbx1 hlt1 hf3 hne hK3 hK1 hfin hKfin hbx5 hlt5 hk3 he3 hk4 he4 hk5 hoth4 hoth5 hl hl' hborn hborn' E3 hS3 hos4 htp4 hou4 hos5 htp5 hou5 hsz4 hsz5 hmem3
        simp only [encShape, Ent.shape] at hdel1
        go_still_tail 8, (by kernel_rfl)
        go_wp2_with (first | (at_delete; refine wpList_delete_at rfl (.tmp 32) (.tmp 36) 52 57 rfl rfl rfl hdel1 ?_; clear hdel1) | (at_delete; refine wpList_delete_at rfl (.tmp 40) (.tmp 41) 51 28 rfl rfl rfl hdel2 ?_; clear hdel2))
        go_roundw
        case rel => exact ⟨s'.evict e, HFIN.out.1, hok'.evict e, hto.step HC.out HL.out HF.out, HFIN.out.2.1, HFIN.out.2.2.1, HFIN.out.2.2.2⟩
        case measure =>
          rw [HMS.out, mapSize_store HFIN.out.1]
          exact St.evict_length HF.out
    · have hd : decide (s'.cap < (s'.ents.length : Int)) = false := decide_eq_false hcap
      have HC := Lib.hid hcap
      clear hcap
      go_wp2
      go_quiet (fail)
      go_wp2
      go_end0
      exact ⟨rfl, by rw [hto.stop (.inl (by have := HC.out; omega))]; exact hS.kept (fun _ _ => rfl) (Nat.le_refl _), ⟨hK.os, hK.tape, hK.output, hK.size, hK.block⟩⟩
end Go.Proofs.YtlfongfoddlhjaaDoor
