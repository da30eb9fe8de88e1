/- The walk of the store's 'lay'. -/
import Derived.Test.YtlfongfoddlhjaaDoorStW3
import Derived.Test.YtlfongfoddlhjaaDoorStW5
import Derived.Test.YtlfongfoddlhjaaDoorLayInv
import Derived.Test.YtlfongfoddlhjaaDoorLayAdd
import Derived.Deep.DeepFit
import Derived.Maps.AppendAt
namespace Go.Proofs.YtlfongfoddlhjaaDoor
open Go Go.RowKit Go.Lod
open Go.ChangeMaps (setBlock)
set_option maxRecDepth 100000

def LayPost (own : Nat → Prop) (bs be bk : Nat) (s : St) (T : Ty) (w : World) (r : Ending) (w' : World) : Prop :=
  r = .returned (.int .u64 (s.lay T).2) ∧ ∃ own' pl', StoreAt w' own' bs be bk pl' (s.lay T).1 ∧ Kept own w w' ∧ (∀ k, own k → own' k) ∧ (∀ k, own' k → own k ∨ w.heap.size ≤ k)

def LayAt (bs be bk : Nat) (T : Ty) : Prop :=
  ∀ (w : World) (own : Nat → Prop) (pl : Int → Site) (s : St) (v : Value), StoreAt w own bs be bk pl s → s.Good → T.Fits → T.isNil = false →
    s.given + T.size < 9223372036854775808 → s.clock + T.size < 9223372036854775808 → TyAt w (fun k => ¬ own k) T v →
    Calls Tryd.prog 17 #[.pointer (some ⟨bs, 0, none⟩), v] w (LayPost own bs be bk s T w)

theorem Ty.size_mem {t : Ty} : ∀ {gs : List Ty}, t ∈ gs → t.size ≤ Ty.sizeL gs
  | [], h => by simp at h
  | g :: gs, h => by
    simp only [Ty.sizeL]
    rcases List.mem_cons.1 h with rfl | h
    · omega
    · have := Ty.size_mem h; omega
theorem Ty.fits_mem {t : Ty} : ∀ {gs : List Ty}, Ty.FitsL gs → t ∈ gs → t.isNil = false ∧ t.Fits
  | [], _, h => by simp at h
  | g :: gs, hf, h => by
    obtain ⟨h1, h2, h3⟩ := hf
    rcases List.mem_cons.1 h with rfl | h
    · exact ⟨h1, h2⟩
    · exact Ty.fits_mem h3 h
theorem Ty.sizeL_take (gs : List Ty) (k : Nat) {t : Ty} (h : gs[k]? = some t) : Ty.sizeL (gs.take k) + t.size ≤ Ty.sizeL gs := by
  induction gs generalizing k with
  | nil => simp at h
  | cons g gs ih =>
    cases k with
    | zero => simp at h; subst h; simp [Ty.sizeL]
    | succ k =>
      have := ih k (by simpa using h)
      simp only [List.take_succ_cons, Ty.sizeL]
      omega
theorem Ty.fits_take {gs : List Ty} (h : Ty.FitsL gs) (k : Nat) : Ty.FitsL (gs.take k) := by
  induction gs generalizing k with
  | nil => simpa using h
  | cons g gs ih =>
    cases k with
    | zero => trivial
    | succ k => exact ⟨h.1, h.2.1, ih h.2.2 k⟩
theorem idBytes_length (x : Int) : (idBytes x).length = 8 := by simp [idBytes]

theorem flat_length : ∀ ids : List Int, (ids.flatMap idBytes).length = ids.length * 8
  | [] => rfl
  | x :: ids => by simp only [List.flatMap_cons, List.length_append, idBytes_length, flat_length ids, List.length_cons]; omega

def layN (s : St) (gs : List Ty) (k : Nat) : St := (s.layL (gs.take k)).1
def layI (s : St) (gs : List Ty) (k : Nat) : List Int := (s.layL (gs.take k)).2

theorem lay_next {s : St} {gs : List Ty} {k : Nat} {t : Ty} (h : gs[k]? = some t) : layN s gs (k + 1) = ((layN s gs k).lay t).1 ∧ layI s gs (k + 1) = layI s gs k ++ [((layN s gs k).lay t).2] := by
  unfold layN layI
  rw [List.take_add_one, h]
  simp only [Option.toList_some]
  rw [St.layL_append]
  exact ⟨rfl, rfl⟩

theorem one_cell_u64 (x : Int) : ∀ u ∈ [Value.int .u64 x], u.oneCell' = true := by intro u hu; simp only [List.mem_cons, List.not_mem_nil, or_false] at hu; subst hu; rfl

theorem set5 (w : World) {b c : Nat} (h : b ≠ c) (i : Nat) (v0 v1 v2 v3 v4 : Value) : (((((w.setCell ⟨b, 0, none⟩ v0).setCell ⟨b, 1, none⟩ v1).setCell ⟨b, 2, none⟩ v2).setCell ⟨b, 3, none⟩ v3).setCell ⟨b, 4, none⟩ v4).cell? ⟨c, i, none⟩ = w.cell? ⟨c, i, none⟩ := by
  have hx : ∀ (j : Nat), (⟨b, j, none⟩ : Addr) ≠ ⟨c, i, none⟩ := fun j e => h (by simpa using congrArg Addr.block e)
  rw [World.cell?_setCell_other _ _ _ _ (hx 4), World.cell?_setCell_other _ _ _ _ (hx 3), World.cell?_setCell_other _ _ _ _ (hx 2), World.cell?_setCell_other _ _ _ _ (hx 1), World.cell?_setCell_other _ _ _ _ (hx 0)]

/-- at the head of the loop over the parts -/
def LayHead (w : World) (own : Nat → Prop) (bs be bk eb : Nat) (nv : Value) (ns : List ByteArray) (s : St) (gs : List Ty) (i : Value) (W : World) : Prop :=
  ∃ (k : Nat) (own1 : Nat → Prop) (pl1 : Int → Site) (av : Value), i = .int .i64 k ∧ k ≤ gs.length ∧
    LayInv w own own1 bs be bk pl1 eb nv av ns (layN s gs k) (layI s gs k) ((layI s gs k).flatMap idBytes) (eCells nv av) W ∧ (layI s gs k).length = k ∧ (layN s gs k).Good

theorem below_drewN (W : World) (n : Nat) : Below W.heap.size W (W.drewN n) := ⟨rfl, rfl, rfl, Nat.le_refl _, fun _ _ => rfl⟩

theorem St.layOne_some {s : St} {k : Int} {nm : ByteArray} {ns : List ByteArray} {ids : List Int} {rid : Int} {e : Ent} (h : s.at ⟨k, nm, fieldsOf ns, partsOf ids, rid⟩ = some e) :
    s.layOne k nm ns ids rid = (St.upd { s with clock := wrapu (s.clock + 1) } e.id (fun x => { x with used := wrapu (s.clock + 1) }), e.id) := by
  unfold St.layOne
  simp only
  rw [show St.at { s with clock := wrapu (s.clock + 1) } ⟨k, nm, fieldsOf ns, partsOf ids, rid⟩ = some e from h]
theorem St.layOne_none {s : St} {k : Int} {nm : ByteArray} {ns : List ByteArray} {ids : List Int} {rid : Int} (h : s.at ⟨k, nm, fieldsOf ns, partsOf ids, rid⟩ = none) :
    s.layOne k nm ns ids rid = ((St.hold { s with given := wrapu (s.given + 1), clock := wrapu (s.clock + 1), ents := s.ents ++ [⟨wrapu (s.given + 1), k, nm, ns, ids, rid, 0, 0, 0⟩] } (rid :: ids) 1).upd (wrapu (s.given + 1)) (fun x => { x with used := wrapu (s.clock + 1) }), wrapu (s.given + 1)) := by
  unfold St.layOne
  simp only
  rw [show St.at { s with clock := wrapu (s.clock + 1) } ⟨k, nm, fieldsOf ns, partsOf ids, rid⟩ = none from h]

/-- when all parts are laid, the last included -/
def LayMid (w : World) (own : Nat → Prop) (bs be bk eb : Nat) (nv : Value) (ns : List ByteArray) (s1 : St) (r : Ty) (k : Int) (nm : ByteArray) (ids : List Int) (W : World) : Prop :=
  ∃ (own2 : Nat → Prop) (pl2 : Int → Site) (av : Value),
    LayInv w own own2 bs be bk pl2 eb nv av ns (s1.lay r).1 ids (ids.flatMap idBytes) #[.int .i64 k, .string nm, .string (fieldsOf ns), .string (partsOf ids), .int .u64 (s1.lay r).2, nv, av, .int .i64 0, .int .i64 0, .int .u64 0] W

set_option maxHeartbeats 8000000 in
theorem lay_step (bs be bk : Nat) (k : Int) (nm : ByteArray) (ns : List ByteArray) (gs : List Ty) (r : Ty) (ihg : ∀ t ∈ gs, LayAt bs be bk t) (ihr : LayAt bs be bk r) :
    LayAt bs be bk (.mk k nm ns gs r) := by
  intro w own pl s v h hg hf _ hgb hcb hT
  obtain ⟨tb, nv, av, rv, rfl, htb, hth, hnv, ⟨ps, hav, hps⟩, hrv⟩ := hT
  obtain ⟨hf1, hf2, hf3, hf4, hf5⟩ := hf
  simp only [Ty.size] at hgb hcb
  have t2 : w.cell? ⟨tb, 2, none⟩ = some nv := by simp [World.cell?, hth]
  have t3 : w.cell? ⟨tb, 3, none⟩ = some av := by simp [World.cell?, hth]
  have hclone := clone_names hnv hf1
  have htl : tb < w.heap.size := lt_of_block hth
  have hpl : ps.length = gs.length := TysAt.length gs ps hps
  obtain ⟨aa, ac, hav0⟩ := hav.form
  rw [hpl] at hav0
  subst hav0
  obtain ⟨i0, hi, hz0, hz1, hz2'⟩ := info_parts info_u64
  go_enter Tryd.func17, Tryd.ntmps17
  go_wp2_with (go_at_call 15; refine hclone.mono ?_; clear hclone; rintro e w1 ⟨nv1, rfl, hnv1, hB1⟩; obtain ⟨na, nc, hnvf⟩ := hnv1.form; subst hnvf; have t31 := (hB1.cell (p := ⟨tb, 3, none⟩) htl).trans t3; have n1 : tb < w1.heap.size := Nat.lt_of_lt_of_le htl hB1.size; have n2 : tb ≤ w1.heap.size := Nat.le_of_lt n1)
  generalize hnvv : Value.slice na ns.length nc = nvv
  have HNV := Lib.hid hnvv
  clear hnvv
  have hstart : LayHead w own bs be bk w1.heap.size nvv ns s gs (.int .i64 0) ((w1.alloc (Obj.cells (eCells nvv (.slice none 0 0)) 59)).alloc (Obj.cells #[Value.pointer none, Value.slice none 0 0] 69)) := by
    refine ⟨0, own, pl, .slice none 0 0, rfl, Nat.zero_le _, ?_, rfl, hg⟩
    have hb1 : Below w1.heap.size w1 (w1.alloc (Obj.cells (eCells nvv (.slice none 0 0)) 59)) := (Below.refl _ w1).alloc (Nat.le_refl _) _
    have hb2 := hb1.alloc (o := Obj.cells #[Value.pointer none, Value.slice none 0 0] 69) (by simp)
    have hBw : Below w.heap.size w ((w1.alloc (Obj.cells (eCells nvv (.slice none 0 0)) 59)).alloc (Obj.cells #[Value.pointer none, Value.slice none 0 0] 69)) := hB1.trans (hb2.mono hB1.size)
    have hnw : ∀ k, own k → k < w1.heap.size := fun k hk => Nat.lt_of_lt_of_le (h.low k hk) hB1.size
    refine ⟨h.below hBw, Kept.of_below hBw, fun k hk => hk, fun k hk => .inl hk, fun hk => by have := hnw _ hk; omega, hB1.size, ?_, ?_, ⟨rfl, .inl ⟨rfl, rfl⟩⟩, fun g hg => by simp [Value.ownBlock] at hg, ?_⟩
    · rw [heap_alloc_old _ _ (by simp)]; exact heap_alloc_new w1 _
    · have hnv2 : SlAt w1 (fun k => w.heap.size ≤ k) 9 nvv (ns.map .string) := by rw [← HNV.out]; simpa using hnv1
      have := hnv2.kept (w' := (w1.alloc (Obj.cells (eCells nvv (.slice none 0 0)) 59)).alloc (Obj.cells #[Value.pointer none, Value.slice none 0 0] 69)) (S' := fun k => ¬ own k ∧ w.heap.size ≤ k ∧ k < w1.heap.size) (fun k o hk ho => ⟨by rw [hb2.block k (lt_of_block ho)]; exact ho, fun hk2 => by have := h.low k hk2; omega, hk, lt_of_block ho⟩)
      exact this
    · have := bld_new (w := w1.alloc (Obj.cells (eCells nvv (.slice none 0 0)) 59)) (B := w1.heap.size) (by simp)
      rw [World.size_alloc] at this
      have e0 : (layI s gs 0).flatMap idBytes = [] := by simp [layI, St.layL]
      rw [e0]
      exact this
  go_loopw [27] (LayHead w own bs be bk w1.heap.size nvv ns s gs) (fun i _ => gs.length - (intOf i).toNat)
  case atStart => exact hstart
  case round =>
    clear hstart t31 n1 n2 t2 t3
    obtain ⟨j, own1, pl1, av1, rfl, hj, hI, hjl, hG⟩ := hrel
    by_cases hlt : j < gs.length
    · obtain ⟨t, ht⟩ : ∃ t, gs[j]? = some t := ⟨_, List.getElem?_eq_getElem hlt⟩
      have htm : t ∈ gs := List.mem_of_getElem? ht
      obtain ⟨p, hp, htp⟩ := TysAt.get gs ps hps j t ht
      obtain ⟨ab, aoff, rfl, hcell⟩ : ∃ ab aoff, aa = some ⟨ab, aoff, none⟩ ∧ wr.cell? ⟨ab, aoff + j, none⟩ = some p := by
        rcases hav with ⟨h0, _⟩ | ⟨ab, aoff, c, cur, fz, h1, h2, h3, h4, h5⟩
        · rw [h0] at hp; simp at hp
        · simp only [Value.slice.injEq] at h1
          refine ⟨ab, aoff, h1.1, ?_⟩
          have hh : wr.heap[ab]? = some (.cells cur 33 fz) := hI.kept.heap h3 h4
          simp only [World.cell?, hh, Option.isSome_none, Bool.false_eq_true, if_false]
          exact h5 j p hp
      obtain ⟨htn, htf⟩ := Ty.fits_mem hf4 htm
      have hsp := St.layL_spec (gs.take j) s hg (Ty.fits_take hf4 j) (by have := Ty.sizeL_take gs j ht; omega) (by have := Ty.sizeL_take gs j ht; omega)
      have hst := Ty.sizeL_take gs j ht
      have hgb' : (layN s gs j).given + t.size < 9223372036854775808 := by have := hsp.2.2.1; unfold layN; omega
      have hcb' : (layN s gs j).clock + t.size < 9223372036854775808 := by have := hsp.2.1; unfold layN; omega
      have htp' : TyAt wr (fun k => ¬ own1 k) t p := htp.kept (fun k o hS ho => ⟨hI.kept.heap hS ho, fun h1 => (hI.sup k h1).elim hS (fun h2 => by have := lt_of_block ho; omega)⟩)
      have hcall := ihg t htm wr own1 pl1 (layN s gs j) p hI.st hG htf htn hgb' hcb' htp'
      obtain ⟨hnx1, hnx2⟩ := lay_next (s := s) ht
      obtain ⟨g1, g2, g3, g4, g5, g6⟩ := St.lay_spec t (layN s gs j) hG htf hgb' hcb'
      obtain ⟨b1, b2⟩ := g1.mem_id (g5 htn)
      unfold LayPost at hcall
      generalize ((layN s gs j).lay t).2 = x at *
      generalize ((layN s gs j).lay t).1 = s2 at *
      have hx1 : x < 18446744073709551616 := by omega
      have hx0 : 0 ≤ x := by omega
      have hb1 : j + 1 ≤ maxLen := by unfold maxLen; omega
      have hb2 : (j + 1) * 8 ≤ 140737488355328 := by omega
      have hlen : ((layI s gs j).flatMap idBytes).length + (ByteArray.mk (idBytes x).toArray).size ≤ 140737488355328 := by
        simp only [flat_length, ByteArray.size, List.size_toArray, idBytes_length, hjl]
        omega
      generalize w1.heap.size = eb at *
      generalize layI s gs j = ids at *
      have HS := Lib.hid (show layN s gs (j + 1) = s2 from hnx1)
      have HX := Lib.hid (show layI s gs (j + 1) = ids ++ [x] from hnx2)
      have HG := Lib.hid g1
      have HJ := Lib.hid hjl
      clear hnx1 hnx2 g1 g2 g3 g4 g5 g6 b1 b2 hgb' hcb' htp' hsp hst htf htn htp hp htm ht hav hps hpl hth hrv hnv hgb hcb hf1 hf2 hf3 hf4 hf5 ihg ihr hG htb htl h hg hnv1 hB1
      subst hjl
      go_wp2_with (first | (go_at_call 17; go_must (refine hcall.mono ?_; clear hcall; rintro e w2 ⟨rfl, own2, pl2, hS2, hK2, hsub2, hsup2⟩; have hI2 := hI.laid hS2 hK2 hsub2 hsup2; have c6 : w2.cell? ⟨eb, 6, none⟩ = some av1 := hI2.cellAt 6; have hz2 := hI2.size; have hz3 : eb < w2.heap.size := (by omega); clear hcell hS2 hK2 hsub2 hsup2)) | (at_builtin; refine wpList_append_lies _ rfl (.tmp 38) (.tmp 40) 47 rfl eb 28 i0 (.int .u64 0) 1 8 Tryd.underlying47 hi hz0 hz1 hz2' rfl (by decide) av1 ids.length (ids.map (.int .u64)) rfl (hI2.row.alloc _) ⟨w2.heap.size, 0, none⟩ 1 1 [.int .u64 x] rfl rfl (cell_one_new _ _ _) (one_cell_u64 x) (by decide) hb1 hb2 (by simp; omega) (w2.heap.size + 1) (by simp) ?_; intro g cap w3 hown3 hgrow3 hgg3 hlt3; obtain ⟨c63, f63, hz3'⟩ := hI2.grownCell hgrow3 6; replace c63 : w3.cell? ⟨eb, 6, none⟩ = some av1 := c63; have hI3 := hI2.push hown3 hgrow3 hgg3; clear hown3 hgrow3 hgg3 c6 hz2 hz3) | (go_at_call 23; go_must (refine (bytes_calls x hx0 hx1 _).mono ?_; rintro e w4 ⟨rfl, hB4⟩; have hI4 := hI3.below hB4)) | (go_at_call 22; go_must (refine (write_calls hI4.bld _ hlen (Nat.le_of_lt (lt_of_block hI4.ent))).mono ?_; rintro e w5 ⟨rfl, hb5, hB5, ho5⟩; have hI5 := hI4.wrote hb5 hB5 ho5)))
      refine ⟨⟨ids.length + 1, own2, pl2, .slice (some ⟨g, 0, none⟩) (ids.length + 1) cap, by go_num, by omega, ?_, ?_, ?_⟩, by simp [intOf]; omega⟩
      · rw [HS.out, HX.out, List.flatMap_append]
        have e1 : [x].flatMap idBytes = idBytes x := by simp
        rw [e1]
        exact hI5
      · rw [HX.out]; simp
      · rw [HS.out]; exact HG.out
    · obtain rfl : j = gs.length := by omega
      have htb0 : wr.heap[tb]? = some (.cells #[.int .i64 k, .string nm, nv, .slice aa gs.length ac, rv] 43 (0, 0)) := hI.kept.heap htb hth
      have hnvr : SlAt wr (fun k => ¬ own k) 9 nv (ns.map .string) := hnv.kept (fun k o hS ho => ⟨hI.kept.heap hS ho, hS⟩)
      have htbe : tb < w1.heap.size := Nat.lt_of_lt_of_le htl hB1.size
      have hsp := St.layL_spec gs s hg hf4 (by omega) (by omega)
      have hll : s.layL gs = (layN s gs gs.length, layI s gs gs.length) := by unfold layN layI; rw [List.take_length]
      have HLL := Lib.hid hll
      rw [hll] at hsp
      simp only at hsp
      have hgb' : (layN s gs gs.length).given + (r.size + 1) < 9223372036854775808 := by have := hsp.2.2.1; omega
      have hcb' : (layN s gs gs.length).clock + (r.size + 1) < 9223372036854775808 := by have := hsp.2.1; omega
      generalize w1.heap.size = eb at *
      generalize layN s gs gs.length = s1 at *
      generalize layI s gs gs.length = ids at *
      clear hll hsp hlt hj ihg hav hps hpl hnv hnv1 hf4 hgb hcb hg
      have t0 : wr.cell? ⟨tb, 0, none⟩ = some (.int .i64 k) := by simp [World.cell?, htb0]
      have t1 : wr.cell? ⟨tb, 1, none⟩ = some (.string nm) := by simp [World.cell?, htb0]
      have t2 : wr.cell? ⟨tb, 2, none⟩ = some nv := by simp [World.cell?, htb0]
      have hjoin := fun (W : World) (hS : SlAt W (fun k => ¬ own k) 9 nv (ns.map .string)) => join_names hS hf1 hf3
      go_wp2
      go_cut [] (fun W => LayInv w own own1 bs be bk pl1 eb nvv av1 ns s1 ids (ids.flatMap idBytes) #[.int .i64 k, .string nm, .string (fieldsOf ns), .string (partsOf ids), .int .u64 0, nvv, av1, .int .i64 0, .int .i64 0, .int .u64 0] W)
      case first =>
        have hId := hI.below ((Below.refl wr.heap.size wr).drew)
        have td0 : wr.drew.cell? ⟨tb, 0, none⟩ = some (.int .i64 k) := t0
        have td1 : wr.drew.cell? ⟨tb, 1, none⟩ = some (.string nm) := t1
        have td2 : wr.drew.cell? ⟨tb, 2, none⟩ = some nv := t2
        have hne : eb ≠ tb := by omega
        have hSd : SlAt wr.drew (fun k => ¬ own k) 9 nv (ns.map .string) := hnvr
        have hjn := hjoin wr.drew hSd
        have htl' : tb < wr.heap.size := lt_of_block htb0
        clear hjoin hgb' hcb' hrv htb0 hnvr hSd hI hi hz0 hz1 hz2' hf1 hf2 hf3 hf5 ihr HNV hB1 htb hth htl h
        go_region_held3 (fun W => W.cell? ⟨tb, 0, none⟩ = some (.int .i64 k) ∧ W.cell? ⟨tb, 1, none⟩ = some (.string nm) ∧ W.cell? ⟨tb, 2, none⟩ = some nv)
          (first | (with_reducible exact ⟨td0, td1, td2⟩) | (with_reducible exact ⟨k0, k1, k2⟩) | (with_reducible exact ⟨m0, m1, m2⟩) | exact ⟨(set5 w3 hne _ _ _ _ _ _).trans m0, (set5 w3 hne _ _ _ _ _ _).trans m1, (set5 w3 hne _ _ _ _ _ _).trans m2⟩)
          ((first | (go_at_call 24; refine hjn.mono ?_; clear hjn; rintro e w2 ⟨rfl, hB2⟩; have hI2 := hId.below hB2; have k0 := (hB2.cell (p := ⟨tb, 0, none⟩) htl').trans t0; have k1 := (hB2.cell (p := ⟨tb, 1, none⟩) htl').trans t1; have k2 := (hB2.cell (p := ⟨tb, 2, none⟩) htl').trans t2) | (go_at_call 25; refine (string_calls hI2.bld (Nat.le_of_lt (lt_of_block hI2.ent))).mono ?_; rintro e w3 ⟨rfl, hb3, hB3, ho3⟩; have hI3 := hI2.wrote hb3 hB3 ho3; have m0 := (hB3.cell (p := ⟨tb, 0, none⟩) htbe).trans k0; have m1 := (hB3.cell (p := ⟨tb, 1, none⟩) htbe).trans k1; have m2 := (hB3.cell (p := ⟨tb, 2, none⟩) htbe).trans k2; have e0 : w3.cell? ⟨eb, 0, none⟩ = some (.int .i64 0) := hI3.cellAt 0; have e1 : w3.cell? ⟨eb, 1, none⟩ = some (.string ⟨#[]⟩) := hI3.cellAt 1; have e2 : w3.cell? ⟨eb, 2, none⟩ = some (.string ⟨#[]⟩) := hI3.cellAt 2; have e3 : w3.cell? ⟨eb, 3, none⟩ = some (.string ⟨#[]⟩) := hI3.cellAt 3; have e4 : w3.cell? ⟨eb, 4, none⟩ = some (.int .u64 0) := hI3.cellAt 4; have ef0 := hI3.free 0; have ef1 := hI3.free 1; have ef2 := hI3.free 2; have ef3 := hI3.free 3; have ef4 := hI3.free 4; have HI3 := Lib.hid hI3; have HB2 := Lib.hid hB2; have HB3 := Lib.hid hB3; clear hI3 hI2 hb3 hB3 ho3 hB2 k0 k1 k2)))
        go_wp2
        go_meet
        case rel =>
          have hI4 := ((((HI3.out.poke 0 (.int .i64 k)).poke 1 (.string nm)).poke 2 (.string (fieldsOf ns))).poke 3 (.string (partsOf ids))).poke 4 (.int .u64 0)
          exact hI4
      case rest =>
        have hI2 := hcut
        have htb2 : wc.heap[tb]? = some (.cells #[.int .i64 k, .string nm, nv, .slice aa gs.length ac, rv] 43 (0, 0)) := hI2.kept.heap htb hth
        have hrv2 : TyAt wc (fun k => ¬ own1 k) r rv := hrv.kept (fun k o hS ho => ⟨hI2.kept.heap hS ho, fun h1 => (hI2.sup k h1).elim hS (fun h2 => by have := lt_of_block ho; omega)⟩)
        have t4 : wc.cell? ⟨tb, 4, none⟩ = some rv := by simp [World.cell?, htb2]
        have HN := Lib.hid hi
        have hG1 := hG
        have hGr := St.lay_spec r s1 hG hf5 (by omega) (by omega)
        clear hjoin t0 t1 t2 htb0 hnvr hI hrv hth h hi htb2
        have hr : ∃ rp, rv = .pointer rp ∧ ((rp = none ∧ r = .nil) ∨ (∃ rb, rp = some ⟨rb, 0, none⟩ ∧ r.isNil = false)) := by
          cases r with
          | nil => exact ⟨none, hrv2, .inl ⟨rfl, rfl⟩⟩
          | mk => obtain ⟨rb, _, _, _, e, _⟩ := hrv2; exact ⟨_, e, .inr ⟨rb, rfl, rfl⟩⟩
        obtain ⟨rp, rfl, hrp⟩ := hr
        have HRP := Lib.hid hrp
        clear hrp
        go_upto_if 70 with (fail)
        go_cut [] (LayMid w own bs be bk eb nvv ns s1 r k nm ids)
        case first =>
          rcases HRP.out with ⟨rfl, hrn⟩ | ⟨rb, rfl, hrn⟩
          · obtain rfl := hrn
            go_wp2
            go_meet
            exact ⟨own1, pl1, av1, by rw [St.lay]; exact hI2⟩
          · have hcallr := ihr wc own1 pl1 s1 _ hI2.st hG1 hf5 hrn (by omega) (by omega) hrv2
            unfold LayPost at hcallr
            have HI := Lib.hid hI2
            clear ihr hgb' hcb' hrv2 hGr hI2 hcut
            go_wp2_with (go_at_call 17; refine hcallr.mono ?_; clear hcallr; rintro e w2 ⟨rfl, own2, pl2, hS2, hK2, hsub2, hsup2⟩; have hI3 := HI.out.laid hS2 hK2 hsub2 hsup2; have ef4 := hI3.free 4; have ec4 := hI3.cellAt 4; clear hS2 hK2 hsub2 hsup2)
            go_meet
            exact ⟨own2, pl2, av1, hI3.poke 4 _⟩
        case rest =>
          obtain ⟨own2, pl2, av2, hI3⟩ := hcut
          have HL2 := Lib.hid (show s.lay (.mk k nm ns gs r) = (s1.lay r).1.layOne k nm ns ids (s1.lay r).2 by rw [St.lay, HLL.out])
          have hG2 := hGr.1
          have hb2 : (s1.lay r).1.given + 1 < 9223372036854775808 ∧ (s1.lay r).1.clock + 1 < 9223372036854775808 := ⟨by have := hGr.2.2.1; omega, by have := hGr.2.1; omega⟩
          clear hGr HRP hI2 ihr hgb' hcb' hrv2 t4 hG hG1
          generalize (s1.lay r).1 = s2 at *
          generalize (s1.lay r).2 = rid at *
          have hst := hI3.st
          have hS3 := hst.setMain (s' := { s2 with clock := wrapu (s2.clock + 1) }) 2 (.int .u64 (wrapu (s2.clock + 1))) rfl (by simp)
          have hI4 := hI3.laid hS3 ((Kept.refl own2 wc).setCell (.inl hst.mine.1) _) (fun _ h => h) (fun _ h => .inl h)
          have c2 := hst.cells.2.2.1
          have f2 := hst.free 2
          have HI := Lib.hid (And.intro hI4 hS3)
          clear hI4 hS3 hst hI3
          go_upto_region 15 with (fail)
          have hclk : IntKind.u64.wrap (s2.clock + 1) = wrapu (s2.clock + 1) := rfl
          rw [hclk]
          have HWC := Lib.hid (show wrapu (s2.clock + 1) = s2.clock + 1 from wrapu_in (by have := hG2.c0; omega) (by omega))
          generalize wc.setCell ⟨bs, 2, none⟩ (.int .u64 (wrapu (s2.clock + 1))) = W3 at HI ⊢
          clear hclk c2 f2
          obtain ⟨hI4, hS4⟩ := HI.out
          have hlk : ∀ n, (Instr.lookup 52 (.map (some bk)) (encShape ⟨k, nm, fieldsOf ns, partsOf ids, rid⟩) true).run Tryd.prog (W3.drewN n) = .ok (lookVal encU (.int .u64 0) true ((s2.at ⟨k, nm, fieldsOf ns, partsOf ids, rid⟩).map fun e => e.id)) (W3.drewN n) := fun n => look_known (hS4.kept (w' := W3.drewN n) (fun _ _ => rfl) (Nat.le_refl _)) ⟨k, nm, fieldsOf ns, partsOf ids, rid⟩ true
          have cm4 := hS4.cells.2.2.2.2
          have ce0 : W3.cell? ⟨eb, 0, none⟩ = some (.int .i64 k) := hI4.cellAt 0
          have ce1 : W3.cell? ⟨eb, 1, none⟩ = some (.string nm) := hI4.cellAt 1
          have ce2 : W3.cell? ⟨eb, 2, none⟩ = some (.string (fieldsOf ns)) := hI4.cellAt 2
          have ce3 : W3.cell? ⟨eb, 3, none⟩ = some (.string (partsOf ids)) := hI4.cellAt 3
          have ce4 : W3.cell? ⟨eb, 4, none⟩ = some (.int .u64 rid) := hI4.cellAt 4
          clear hI4 hS4
          cases hat : s2.at ⟨k, nm, fieldsOf ns, partsOf ids, rid⟩ with
          | some e =>
            simp only [hat, Option.map_some, lookVal, Option.getD_some, if_true, encShape, encU, Option.isSome_some] at hlk
            have HAT := Lib.hid hat
            clear hat
            go_wp2
            go_quiet (fail)
            have hI4 : LayInv w own own2 bs be bk pl2 eb nvv av2 ns { cap := s2.cap, given := s2.given, clock := wrapu (s2.clock + 1), ents := s2.ents } ids (ids.flatMap idBytes) #[.int .i64 k, .string nm, .string (fieldsOf ns), .string (partsOf ids), .int .u64 rid, nvv, av2, .int .i64 0, .int .i64 0, .int .u64 0] (W3.drewN nq) := HI.out.1.below (below_drewN W3 nq)
            clear hlk cm4 ce0 ce1 ce2 ce3 ce4 HI
            generalize W3.drewN nq = W4 at *
            obtain ⟨hmem, _⟩ := St.at_mem HAT.out
            have E := hI4.st.ents e hmem
            have hlook : (Instr.lookup 51 (.map (some be)) (.int .u64 e.id) false).run Tryd.prog W4.drew = .ok (.pointer (some ⟨(pl2 e.id).blk, 0, none⟩)) W4.drew := by
              have := look_entry (hI4.st.kept (w' := W4.drew) (fun _ _ => rfl) (Nat.le_refl _)) e.id false
              rw [show St.find { cap := s2.cap, given := s2.given, clock := wrapu (s2.clock + 1), ents := s2.ents } e.id = some e from St.find_of_mem hG2.ok.nd hmem] at this
              exact this
            have hset := (hI4.st.kept (w' := W4.drew) (fun _ _ => rfl) (Nat.le_refl _)).setEnt hmem 9 (.int .u64 (wrapu (s2.clock + 1))) (fun x => { x with used := wrapu (s2.clock + 1) }) (fun _ => rfl) (fun _ => rfl) (fun _ => rfl) (fun _ => rfl) (uniq_of_nodup hG2.ok.nd hmem) (by simp [cellsOfEnt])
            have hkept := hI4.kept.drew.setCell (p := ⟨(pl2 e.id).blk, 9, none⟩) (hI4.sup _ E.mine) (.int .u64 (wrapu (s2.clock + 1)))
            have hfin : LayPost own bs be bk s (.mk k nm ns gs r) w (.returned (.int .u64 e.id)) (W4.drew.setCell ⟨(pl2 e.id).blk, 9, none⟩ (.int .u64 (wrapu (s2.clock + 1)))) := by
              have hl := HL2.out.trans (St.layOne_some HAT.out)
              unfold LayPost
              rw [hl]
              exact ⟨rfl, own2, pl2, hset, hkept, hI4.sub, hI4.sup⟩
            have c2 := hI4.st.cells.2.2.1
            have c3 := hI4.st.cells.2.2.2.1
            have cx := E.cells.2.2.2.2.2.2.2.2.2
            have fx := E.free 9
            have HF := Lib.hid hfin
            clear hfin hset hkept hI4 E hmem
            go_upto_region 21 with (fail)
            go_still_tail 12, (by kernel_rfl)
            go_wp2
            go_ret
            exact HF.out
          | none =>
            simp only [hat, Option.map_none, lookVal, Option.getD_none, if_true, encShape, encU, Option.isSome_none] at hlk
            have HAT := Lib.hid hat
            clear hat
            go_wp2
            go_quiet (fail)
            have hI4 : LayInv w own own2 bs be bk pl2 eb nvv av2 ns { cap := s2.cap, given := s2.given, clock := wrapu (s2.clock + 1), ents := s2.ents } ids (ids.flatMap idBytes) #[.int .i64 k, .string nm, .string (fieldsOf ns), .string (partsOf ids), .int .u64 rid, nvv, av2, .int .i64 0, .int .i64 0, .int .u64 0] (W3.drewN nq) := HI.out.1.below (below_drewN W3 nq)
            clear hlk cm4 ce0 ce1 ce2 ce3 ce4 HI
            generalize W3.drewN nq = W4 at *
            have c1 := hI4.st.cells.2.1
            have f1 := hI4.st.free 1
            have HI := Lib.hid hI4
            clear hI4
            go_upto_region 19 with (fail)
            have hid0 : IntKind.u64.wrap (s2.given + 1) = wrapu (s2.given + 1) := rfl
            rw [hid0]
            have hst := HI.out.st
            have hS5 := hst.setMain (s' := { s2 with given := wrapu (s2.given + 1), clock := wrapu (s2.clock + 1) }) 1 (.int .u64 (wrapu (s2.given + 1))) rfl (by simp)
            have hI5 := HI.out.laid hS5 ((Kept.refl own2 W4).setCell (.inl hst.mine.1) _) (fun _ h => h) (fun _ h => .inl h)
            have HWG := Lib.hid (show wrapu (s2.given + 1) = s2.given + 1 from wrapu_in (by have := hG2.g0; omega) (by omega))
            generalize W4.setCell ⟨bs, 1, none⟩ (.int .u64 (wrapu (s2.given + 1))) = W5 at *
            clear hid0 hst hS5 c1 f1 HI
            have hfresh : wrapu (s2.given + 1) ∉ s2.ids := fun hm => by have := (hG2.mem_id hm).2; rw [HWG.out] at this; omega
            generalize hidn : wrapu (s2.given + 1) = id at *
            generalize hckn : wrapu (s2.clock + 1) = clk at *
            have HNN := Lib.hid (And.intro hidn hckn)
            clear hidn hckn
            have hS5 := hI5.st
            obtain ⟨l', kc, hk5, hl', hborn', hlook'⟩ := hS5.look_shape
            obtain ⟨l, ec, he5, hl, hborn, hlook⟩ := hS5.look_id
            have hfr' : Go.Lod.look (⟨k, nm, fieldsOf ns, partsOf ids, rid⟩ : Shape) l' = none := by rw [hlook']; rw [show St.at { cap := s2.cap, given := id, clock := clk, ents := s2.ents } ⟨k, nm, fieldsOf ns, partsOf ids, rid⟩ = none from HAT.out]; rfl
            have hfr : Go.Lod.look id l = none := by
              rw [hlook]
              rw [show St.find { cap := s2.cap, given := id, clock := clk, ents := s2.ents } id = none from ?_]
              · rfl
              · refine List.find?_eq_none.2 fun x hx => ?_
                simp only [beq_iff_eq]
                exact fun hxe => hfresh (List.mem_map.2 ⟨x, hx, hxe⟩)
            have hne1 : bs ≠ bk := fun hh => by have := hS5.main; rw [hh, hk5] at this; simp at this
            have hne2 : bs ≠ be := fun hh => by have := hS5.main; rw [hh, he5] at this; simp at this
            have hne3 : eb ≠ bk := fun hh => hI5.ebn (hh ▸ hS5.mine.2.2)
            have hne4 : eb ≠ be := fun hh => hI5.ebn (hh ▸ hS5.mine.2.1)
            obtain ⟨Wa, ha1, ha2, ha3, ha4, ha5, ha6, ha7⟩ := mapEntry_world (P := Tryd.prog) (w := W5.drew) keyShape Tryd.underlying52 hk5 ⟨k, nm, fieldsOf ns, partsOf ids, rid⟩ hfr' zero_u64
            obtain ⟨Wb, hb1, hb2', hb3, hb4, hb5, hb6, hb7⟩ := entryStore_world (P := Tryd.prog) (t := 52) ⟨k, nm, fieldsOf ns, partsOf ids, rid⟩ _ ha2 hborn'.1 id
            have hbe : Wb.heap[be]? = some (.map (mEs (.int .u64) encP l) ec) := by rw [hb3 be hS5.maps, ha3 be hS5.maps]; exact he5
            obtain ⟨Wc, hc1, hc2, hc3, hc4, hc5, hc6, hc7⟩ := mapEntry_world (P := Tryd.prog) (w := Wb) keyU Tryd.underlying51 hbe id hfr zero_entry
            obtain ⟨Wd, hd1, hd2, hd3, hd4, hd5, hd6, hd7⟩ := entryStore_world (P := Tryd.prog) (t := 51) id _ hc2 hborn.1 (⟨eb, nvv, av2⟩ : Site)
            have hoth : ∀ i, i ≠ be → i ≠ bk → Wd.heap[i]? = W5.heap[i]? := fun i h1 h2 => by rw [hd3 i h1, hc3 i h1, hb3 i h2, ha3 i h2]; rfl
            have hszd : Wd.heap.size = W5.heap.size := by rw [hd4, hc4, hb4, ha4]; rfl
            have hkd : Wd.heap[bk]? = some (.map (mEs encShape (.int .u64) (l' ++ [(⟨k, nm, fieldsOf ns, partsOf ids, rid⟩, id, kc)])) (kc + 1)) := by rw [hd3 bk (Ne.symm hS5.maps), hc3 bk (Ne.symm hS5.maps)]; exact hb2'
            have hcells : ∀ W : World, (∀ i, i ≠ be → i ≠ bk → W.heap[i]? = W5.heap[i]?) → (fun W => W.cell? ⟨bs, 3, none⟩ = some (.map (some be)) ∧ W.cell? ⟨bs, 4, none⟩ = some (.map (some bk)) ∧ W.cell? ⟨eb, 0, none⟩ = some (.int .i64 k) ∧ W.cell? ⟨eb, 1, none⟩ = some (.string nm) ∧ W.cell? ⟨eb, 2, none⟩ = some (.string (fieldsOf ns)) ∧ W.cell? ⟨eb, 3, none⟩ = some (.string (partsOf ids)) ∧ W.cell? ⟨eb, 4, none⟩ = some (.int .u64 rid)) W := fun W hW => by
              have q1 : ∀ i, W.cell? ⟨bs, i, none⟩ = W5.cell? ⟨bs, i, none⟩ := fun i => World.cell?_of_block (hW _ hne2 hne1)
              have q2 : ∀ i, W.cell? ⟨eb, i, none⟩ = W5.cell? ⟨eb, i, none⟩ := fun i => World.cell?_of_block (hW _ hne4 hne3)
              exact ⟨(q1 3).trans hS5.cells.2.2.2.1, (q1 4).trans hS5.cells.2.2.2.2, (q2 0).trans (hI5.cellAt 0), (q2 1).trans (hI5.cellAt 1), (q2 2).trans (hI5.cellAt 2), (q2 3).trans (hI5.cellAt 3), (q2 4).trans (hI5.cellAt 4)⟩
            have hs0 := hcells W5.drew (fun _ _ _ => rfl)
            have hsa := hcells Wa (fun i h1 h2 => (ha3 i h2).trans rfl)
            have hsb := hcells Wb (fun i h1 h2 => (hb3 i h2).trans (ha3 i h2))
            have hsc := hcells Wc (fun i h1 h2 => (hc3 i h1).trans ((hb3 i h2).trans (ha3 i h2)))
            have hsd := hcells Wd (fun i h1 h2 => (hd3 i h1).trans ((hc3 i h1).trans ((hb3 i h2).trans (ha3 i h2))))
            clear hcells
            simp only [encShape] at ha1
            simp only [encP] at hd1
            have HFR := Lib.hid hfresh
            have HWD := Lib.hid (And.intro hI5 (And.intro hd2 (And.intro hoth (And.intro hszd (And.intro hkd (And.intro (And.intro (hd5.trans (hc5.trans (hb5.trans ha5))) (And.intro (hd6.trans (hc6.trans (hb6.trans ha6))) (hd7.trans (hc7.trans (hb7.trans ha7))))) (And.intro (And.intro hl hborn) (And.intro hl' hborn'))))))))
            clear hI5 hd2 hoth hszd hkd hd5 hd6 hd7 hc5 hc6 hc7 hb5 hb6 hb7 ha5 ha6 ha7 ha2 ha3 ha4 hb2' hb3 hb4 hc2 hc3 hc4 hd3 hd4 hS5 hl hl' hborn hborn' hk5 he5 hlook hlook' hbe hfr hfr' hfresh
            go_region_held3 (fun W => W.cell? ⟨bs, 3, none⟩ = some (.map (some be)) ∧ W.cell? ⟨bs, 4, none⟩ = some (.map (some bk)) ∧ W.cell? ⟨eb, 0, none⟩ = some (.int .i64 k) ∧ W.cell? ⟨eb, 1, none⟩ = some (.string nm) ∧ W.cell? ⟨eb, 2, none⟩ = some (.string (fieldsOf ns)) ∧ W.cell? ⟨eb, 3, none⟩ = some (.string (partsOf ids)) ∧ W.cell? ⟨eb, 4, none⟩ = some (.int .u64 rid))
              (first | with_reducible exact hs0 | with_reducible exact hsa | with_reducible exact hsb | with_reducible exact hsc | with_reducible exact hsd)
              (fail)
            go_upto_region 20 with (fail)
            obtain ⟨hI5, hd2, hoth, hszd, hkd, hrs, hbl, hbl'⟩ := HWD.out
            obtain ⟨own3, hS6, hK6, hsub6, hsup6⟩ := hI5.comes (e := ⟨id, k, nm, ns, ids, rid, 0, 0, 0⟩) rfl rfl rfl HFR.out hbl.1 hbl.2 hbl'.1 hbl'.2 hd2 hkd hoth hszd hrs
            have hok6 := (hG2.add (e := ⟨id, k, nm, ns, ids, rid, 0, 0, 0⟩) (by rw [← HWG.out]) (fun x hx => St.at_none HAT.out x hx) rfl (by show ids.length < _; omega))
            have hnd6 : (List.map (·.id) (s2.ents ++ [(⟨id, k, nm, ns, ids, rid, 0, 0, 0⟩ : Ent)])).Nodup := hok6.nd
            have hmem6 : (⟨id, k, nm, ns, ids, rid, 0, 0, 0⟩ : Ent) ∈ s2.ents ++ [(⟨id, k, nm, ns, ids, rid, 0, 0, 0⟩ : Ent)] := by simp
            have hhold := hold_calls hS6 hmem6 hnd6 1 (by show ids.length < _; omega)
            have hpe : encP (plAdd pl2 id ⟨eb, nvv, av2⟩ id) = .pointer (some ⟨eb, 0, none⟩) := by simp [plAdd, encP]
            simp only [hpe] at hhold
            have hl6 := HL2.out.trans (St.layOne_none HAT.out)
            rw [HNN.out.1, HNN.out.2] at hl6
            have hf6 := St.find_of_mem (s := { cap := s2.cap, given := id, clock := clk, ents := s2.ents ++ [⟨id, k, nm, ns, ids, rid, 0, 0, 0⟩] }) hnd6 hmem6
            obtain ⟨hh, hf7⟩ := St.hold_find 1 (rid :: ids) _ _ hf6
            have hnd7 : (St.hold { cap := s2.cap, given := id, clock := clk, ents := s2.ents ++ [⟨id, k, nm, ns, ids, rid, 0, 0, 0⟩] } (rid :: ids) 1).ids.Nodup := by rw [St.hold_ids]; exact hnd6
            have hclk7 := (St.hold_cap (rid :: ids) 1 { cap := s2.cap, given := id, clock := clk, ents := s2.ents ++ [⟨id, k, nm, ns, ids, rid, 0, 0, 0⟩] }).2.2
            generalize St.hold { cap := s2.cap, given := id, clock := clk, ents := s2.ents ++ [⟨id, k, nm, ns, ids, rid, 0, 0, 0⟩] } (rid :: ids) 1 = s7 at *
            simp only at hclk7
            have HX := Lib.hid (And.intro hl6 (And.intro hnd7 (And.intro hf7 (And.intro hK6 (And.intro hsub6 (And.intro hsup6 hclk7))))))
            clear hI5 hd2 hoth hszd hkd hrs hbl hbl' hS6 hK6 hsub6 hsup6 hok6 hnd6 hmem6 hpe hl6 hf6 hf7 hnd7 HWD hs0 hsa hsb hsc hsd ha1 hb1 hc1 hd1 hne1 hne2 hne3 hne4 hclk7
            go_upto_region 21 with (go_at_call 26; refine hhold.mono ?_; clear hhold; rintro e8 w8 ⟨rfl, hS8, hK8⟩)
            obtain ⟨hl6, hnd7, hf7, hK6, hsub6, hsup6, hclk7⟩ := HX.out
            obtain ⟨hmem8, hid8⟩ := St.find_mem hf7
            generalize he8 : ({ (⟨id, k, nm, ns, ids, rid, 0, 0, 0⟩ : Ent) with held := hh } : Ent) = e9 at hf7 hmem8 hid8
            have E := hS8.ents e9 hmem8
            rw [hid8] at E
            have hlook : (Instr.lookup 51 (.map (some be)) (.int .u64 id) false).run Tryd.prog w8.drew = .ok (.pointer (some ⟨(plAdd pl2 id ⟨eb, nvv, av2⟩ id).blk, 0, none⟩)) w8.drew := by
              have := look_entry (hS8.kept (w' := w8.drew) (fun _ _ => rfl) (Nat.le_refl _)) id false
              rw [hf7] at this
              simp only [Option.map_some, lookVal, Option.getD_some, Bool.false_eq_true, if_false, hid8] at this
              exact this
            have hset := (hS8.kept (w' := w8.drew) (fun _ _ => rfl) (Nat.le_refl _)).setEnt hmem8 9 (.int .u64 clk) (fun x => { x with used := clk }) (fun _ => rfl) (fun _ => rfl) (fun _ => rfl) (fun _ => rfl) (uniq_of_nodup hnd7 hmem8) (by simp [cellsOfEnt])
            rw [hid8] at hset
            have hkept := (hK6.trans hK8 hsup6).drew.setCell (p := ⟨(plAdd pl2 id ⟨eb, nvv, av2⟩ id).blk, 9, none⟩) (hsup6 _ E.mine) (.int .u64 clk)
            have hfin : LayPost own bs be bk s (.mk k nm ns gs r) w (.returned (.int .u64 id)) (w8.drew.setCell ⟨(plAdd pl2 id ⟨eb, nvv, av2⟩ id).blk, 9, none⟩ (.int .u64 clk)) := by
              unfold LayPost
              rw [hl6]
              exact ⟨rfl, own3, _, hset, hkept, hsub6, hsup6⟩
            have c2 := hS8.cells.2.2.1
            rw [hclk7] at c2
            have c3 := hS8.cells.2.2.2.1
            have cx := E.cells.2.2.2.2.2.2.2.2.2
            have fx := E.free 9
            have HF := Lib.hid hfin
            clear hfin hset hkept E hmem8 hid8 he8 hS8 hK8 hl6 hnd7 hf7 hK6 hsub6 hsup6 hclk7 HX
            generalize (plAdd pl2 id ⟨eb, nvv, av2⟩ id).blk = pb at *
            go_still_tail 12, (by kernel_rfl)
            go_wp2
            go_ret
            exact HF.out

theorem lay_calls (bs be bk : Nat) : ∀ (n : Nat) (T : Ty), T.size ≤ n → LayAt bs be bk T
  | 0, .nil, _ => fun w own pl s v h hg hf hn => by simp [Ty.isNil] at hn
  | n + 1, .nil, _ => fun w own pl s v h hg hf hn => by simp [Ty.isNil] at hn
  | 0, .mk .., h => by simp [Ty.size] at h
  | n + 1, .mk k nm ns gs r, h => by
    simp only [Ty.size] at h
    exact lay_step bs be bk k nm ns gs r (fun t ht => lay_calls bs be bk n t (by have := Ty.size_mem ht; omega)) (lay_calls bs be bk n r (by omega))
end Go.Proofs.YtlfongfoddlhjaaDoor
