/- The walk of the store's Intern. -/
import Derived.Test.YtlfongfoddlhjaaDoorStW6
import Derived.Test.YtlfongfoddlhjaaDoorStW7
import Derived.Test.YtlfongfoddlhjaaDoorTyW7
namespace Go.Proofs.YtlfongfoddlhjaaDoor
open Go Go.RowKit Go.Lod
set_option maxRecDepth 100000

theorem ty_inside {w : World} {S : Nat → Prop} {T : Ty} {v : Value} (h : TyAt w S T v) : TyAt w (fun k => S k ∧ k < w.heap.size) T v :=
  h.kept fun _ _ hk ho => ⟨ho, hk, lt_of_block ho⟩

def InternPost (own : Nat → Prop) (bs be bk : Nat) (s : St) (T : Ty) (w : World) (r : Ending) (w' : World) : Prop :=
  r = .returned (.tuple #[.int .u64 (s.intern T).2, .int .i64 0]) ∧ ∃ own' pl', StoreAt w' own' bs be bk pl' (s.intern T).1 ∧ Kept own w w' ∧ (∀ k, own k → own' k) ∧ (∀ k, own' k → own k ∨ w.heap.size ≤ k)

theorem intern_calls {w : World} {own : Nat → Prop} {bs be bk : Nat} {pl : Int → Site} {s : St} {T : Ty} {v : Value} (h : StoreAt w own bs be bk pl s) (hg : s.Good) (hf : T.Fits) (hm : MayOk T) (hn : T.size ≤ 60)
    (hgb : s.given + T.size < 9223372036854775808) (hcb : s.clock + T.size < 9223372036854775808) (hT : TyAt w (fun k => ¬ own k) T v) :
    Calls Tryd.prog 8 #[.pointer (some ⟨bs, 0, none⟩), v] w (InternPost own bs be bk s T w) := by
  have c3 := h.cells.2.2.2.1
  have hno := none_false c3
  have hnil : T.isNil = false := by
    cases T with
    | nil => simp [MayOk] at hm
    | mk => rfl
  have hck := check_ok (ty_inside hT) (fun k hk => hk.2) hm hf hn
  have hlay := fun W (hB : Below w.heap.size w W) => lay_calls bs be bk T.size T (Nat.le_refl _) W own pl s v (h.below hB) hg hf hnil hgb hcb (hT.kept fun i o hi ho => ⟨by rw [hB.block i (lt_of_block ho)]; exact ho, hi⟩)
  obtain ⟨g1, g2, g3, g4, g5, g6⟩ := St.lay_spec T s hg hf hgb hcb
  have hin : s.intern T = (((s.lay T).1.upd (s.lay T).2 (Ent.addPins 1)).room, (s.lay T).2) := by unfold St.intern; rfl
  have hmem := g5 hnil
  unfold InternPost
  rw [hin]
  obtain ⟨p, rfl⟩ := tyAt_ptr hT
  have HK := Lib.hid (show ∀ k, own k → k < w.heap.size from h.low)
  clear hin g2 g3 g4 g5 g6 hgb hcb hn hm hf hg h hT hnil
  unfold LayPost at hlay
  generalize (s.lay T).1 = s2 at *
  generalize (s.lay T).2 = id at *
  obtain ⟨e, he, hid⟩ := List.mem_map.1 hmem
  have hfd := St.find_of_mem g1.ok.nd he
  rw [hid] at hfd
  have hpost : ∀ w2 own2 pl2, StoreAt w2 own2 bs be bk pl2 s2 → (Instr.lookup 51 (.map (some be)) (.int .u64 id) false).run Tryd.prog w2 = .ok (.pointer (some ⟨(pl2 id).blk, 0, none⟩)) w2 ∧ w2.cell? ⟨bs, 3, none⟩ = some (.map (some be)) ∧
      w2.cell? ⟨(pl2 id).blk, 7, none⟩ = some (.int .i64 e.pins) ∧ w2.frozen? ⟨(pl2 id).blk, 7, none⟩ = false ∧ own2 (pl2 id).blk ∧
      StoreAt (w2.setCell ⟨(pl2 id).blk, 7, none⟩ (.int .i64 (wrap64 (e.pins + 1)))) own2 bs be bk pl2 (s2.upd id (Ent.addPins 1)) := by
    intro w2 own2 pl2 hS
    have E := hS.ents e he
    rw [hid] at E
    have hset := hS.setEnt he 7 (.int .i64 (wrap64 (e.pins + 1))) (Ent.addPins 1) (fun _ => rfl) (fun _ => rfl) (fun _ => rfl) (fun _ => rfl) (uniq_of_nodup g1.ok.nd he) (by simp [cellsOfEnt, Ent.addPins])
    rw [hid] at hset
    have hlook := look_entry hS id false
    rw [hfd] at hlook
    simp only [Option.map_some, lookVal, Option.getD_some, Bool.false_eq_true, if_false, encP, hid] at hlook
    exact ⟨hlook, hS.cells.2.2.2.1, E.cells.2.2.2.2.2.2.2.1, E.free 7, E.mine, hset⟩
  have hok := g1.ok.upd id (Ent.addPins 1) (fun _ => rfl) (fun _ => rfl) (fun _ => rfl) (fun _ => rfl)
  have HP := Lib.hid hpost
  clear hpost hfd hid he hmem g1
  go_enter Tryd.func8, Tryd.ntmps8
  go_wp2_with (first
    | (go_at_call 14; refine hno.mono ?_; clear hno; rintro e0 w1 ⟨rfl, hw1⟩; obtain rfl := hw1.symm)
    | (go_at_call 16; refine hck.mono ?_; clear hck; rintro e1 w2 ⟨rfl, hB2⟩)
    | (go_at_call 17; refine (hlay _ hB2).mono ?_; clear hlay; rintro e2 w3 ⟨rfl, own3, pl3, hS3, hK3, hsub, hsup⟩; obtain ⟨hlk, d3, d7, f7, hmine, hS4⟩ := HP.out w3 own3 pl3 hS3; have hroom := room_calls hS4 hok; have HX := Lib.hid (And.intro hmine (And.intro hK3 (And.intro hsub hsup))); clear hS3 hS4 hmine hK3 hsub hsup; generalize (pl3 id).blk = xb at *)
    | (go_at_call 18; refine hroom.mono ?_; clear hroom; rintro e3 w4 ⟨rfl, hS5, hK5⟩))
  go_ret2
  obtain ⟨hmine, hK3, hsub, hsup⟩ := HX.out
  have hk2 : Kept own w w2 := Kept.of_below hB2
  refine ⟨rfl, own3, pl3, hS5, ?_, hsub, fun k hk => ?_⟩
  · refine ((hk2.trans hK3 fun i hi => .inl hi).trans (own' := own3) ((Kept.refl own3 w3).setCell (.inl hmine) _) ?_).trans hK5 ?_
    · intro i hi
      rcases hsup i hi with h | h
      · exact .inl h
      · exact .inr (Nat.le_trans hB2.size h)
    · intro i hi
      rcases hsup i hi with h | h
      · exact .inl h
      · exact .inr (Nat.le_trans hB2.size h)
  · rcases hsup k hk with h | h
    · exact .inl h
    · exact .inr (Nat.le_trans hB2.size h)
end Go.Proofs.YtlfongfoddlhjaaDoor
