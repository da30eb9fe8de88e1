/- The statements' own works. -/
import Derived.Test.YtlfongfoddlhjaaDoorStW10
import Derived.Test.YtlfongfoddlhjaaDoorStoreR
namespace Go.Proofs.YtlfongfoddlhjaaDoor
open Go Go.RowKit Go.Lod
set_option maxRecDepth 100000

def tInt : Ty := .mk 2 ⟨#[]⟩ [] [] .nil
def tRec : Ty := .mk 7 ⟨#[]⟩ [⟨#[97]⟩] [tInt] .nil
def q0 : St := ⟨0, 0, 0, []⟩
def q1 : St := ⟨0, 1, 1, [⟨1, 2, ⟨#[]⟩, [], [], 0, 1, 0, 1⟩]⟩
def q2 : St := ⟨0, 1, 2, [⟨1, 2, ⟨#[]⟩, [], [], 0, 2, 0, 2⟩]⟩
def q3 : St := ⟨0, 2, 4, [⟨1, 2, ⟨#[]⟩, [], [], 0, 2, 1, 3⟩, ⟨2, 7, ⟨#[]⟩, [⟨#[97]⟩], [1], 0, 1, 0, 4⟩]⟩
def q4 : St := ⟨0, 2, 4, [⟨1, 2, ⟨#[]⟩, [], [], 0, 2, 0, 3⟩]⟩
def q5 : St := ⟨0, 3, 6, [⟨1, 2, ⟨#[]⟩, [], [], 0, 2, 1, 5⟩, ⟨3, 7, ⟨#[]⟩, [⟨#[97]⟩], [1], 0, 1, 0, 6⟩]⟩
def q6 : St := ⟨0, 3, 6, [⟨1, 2, ⟨#[]⟩, [], [], 0, 1, 1, 5⟩, ⟨3, 7, ⟨#[]⟩, [⟨#[97]⟩], [1], 0, 1, 0, 6⟩]⟩
def q7 : St := ⟨0, 3, 6, [⟨1, 2, ⟨#[]⟩, [], [], 0, 0, 1, 5⟩, ⟨3, 7, ⟨#[]⟩, [⟨#[97]⟩], [1], 0, 1, 0, 6⟩]⟩
def q8 : St := ⟨0, 3, 6, []⟩
theorem e1 : q0.intern tInt = (q1, 1) := by kernel_rfl
theorem e2 : q1.intern tInt = (q2, 1) := by kernel_rfl
theorem e3 : q2.intern tRec = (q3, 2) := by kernel_rfl
theorem e4 : q3.release 2 = (q4, 0) := by kernel_rfl
theorem e5 : q4.intern tRec = (q5, 3) := by kernel_rfl
theorem e6 : q5.release 1 = (q6, 0) := by kernel_rfl
theorem e7 : q6.release 1 = (q7, 0) := by kernel_rfl
theorem e8 : q7.release 1 = (q7, 2) := by kernel_rfl
theorem e9 : q7.release 3 = (q8, 0) := by kernel_rfl
theorem e10 : q8.release 3 = (q8, 5) := by kernel_rfl
theorem fitsInt : tInt.Fits := ⟨by decide, by decide, by decide, trivial, trivial⟩
theorem fitsRec : tRec.Fits := ⟨by decide, by decide, by decide, ⟨rfl, fitsInt, trivial⟩, trivial⟩
theorem sizeInt : tInt.size = 1 := rfl
theorem sizeRec : tRec.size = 2 := rfl
theorem mayInt : MayOk tInt := by
  unfold tInt
  simp only [MayOk]
  refine ⟨by decide, by decide, ⟨.inl rfl, .inl rfl, .inl rfl, by simp [Ty.isNil]⟩, trivial, fun h => absurd h (by decide), fun h => absurd h (by decide), fun h => absurd h (by decide)⟩
theorem mayRec : MayOk tRec := by
  unfold tRec
  simp only [MayOk]
  refine ⟨by decide, by decide, ⟨.inl rfl, .inr rfl, .inr (by decide), by simp [Ty.isNil]⟩, ⟨mayInt, trivial⟩, fun h => absurd h (by decide), fun _ => ⟨rfl, ?_, ?_⟩, fun h => absurd h (by decide)⟩
  · intro n hn
    simp only [List.mem_cons, List.not_mem_nil, or_false] at hn
    subst hn
    decide
  · intro i s t h1 h2
    simp at h2
theorem good0 : q0.Good := ⟨⟨by simp [q0, St.ids], by simp [q0], by simp [q0], by simp [q0], by simp [q0]⟩, by simp [q0], by simp [q0], by decide, by decide⟩
theorem goodI {s s' : St} {T : Ty} {id : Int} (h : s.Good) (e : s.intern T = (s', id)) (hf : T.Fits) (hg : s.given + T.size < 9223372036854775808) (hc : s.clock + T.size < 9223372036854775808) : s'.Good := by
  have := (St.intern_good h hf hg hc).1
  rw [e] at this; exact this
theorem goodR {s s' : St} {id r : Int} (h : s.Good) (e : s.release id = (s', r)) : s'.Good := by
  have := (St.release_good h id).1
  rw [e] at this; exact this
theorem good1 : q1.Good := goodI good0 e1 fitsInt (by decide) (by decide)
theorem good2 : q2.Good := goodI good1 e2 fitsInt (by decide) (by decide)
theorem good3 : q3.Good := goodI good2 e3 fitsRec (by decide) (by decide)
theorem good4 : q4.Good := goodR good3 e4
theorem good5 : q5.Good := goodI good4 e5 fitsRec (by decide) (by decide)
theorem good6 : q6.Good := goodR good5 e6
theorem good7 : q7.Good := goodR good6 e7
theorem good8 : q8.Good := goodR good7 e9

theorem internI {w : World} {own : Nat → Prop} {bs be bk : Nat} {pl : Int → Site} {s s' : St} {T : Ty} {v : Value} {id : Int} (h : StoreAt w own bs be bk pl s) (hg : s.Good) (e : s.intern T = (s', id)) (hf : T.Fits) (hm : MayOk T) (hn : T.size ≤ 60)
    (hgb : s.given + T.size < 9223372036854775808) (hcb : s.clock + T.size < 9223372036854775808) (hT : TyAt w (fun k => ¬ own k) T v) :
    Calls Tryd.prog 8 #[.pointer (some ⟨bs, 0, none⟩), v] w fun r w' => r = .returned (.tuple #[.int .u64 id, .int .i64 0]) ∧ ∃ own' pl', StoreAt w' own' bs be bk pl' s' ∧ Kept own w w' ∧ (∀ k, own k → own' k) ∧ (∀ k, own' k → own k ∨ w.heap.size ≤ k) := by
  have := intern_calls h hg hf hm hn hgb hcb hT
  unfold InternPost at this
  rw [e] at this
  exact this
theorem releaseI {w : World} {own : Nat → Prop} {bs be bk : Nat} {pl : Int → Site} {s s' : St} {id r : Int} (h : StoreAt w own bs be bk pl s) (hg : s.Good) (e : s.release id = (s', r)) :
    Calls Tryd.prog 13 #[.pointer (some ⟨bs, 0, none⟩), .int .u64 id] w fun x w' => x = .returned (.int .i64 r) ∧ StoreAt w' own bs be bk pl s' ∧ Kept own w w' := by
  have := release_calls h hg.ok id
  rw [e] at this
  exact this

theorem rec_at {W : World} {S : Nat → Prop} {a b c d : Nat} (ha : S a) (hb : S b) (hc : S c) (hd : S d) (h1 : W.heap[a]? = some (.cells #[.string ⟨#[97]⟩] 9 (0, 0))) (h2 : W.heap[b]? = some (.cells #[.int .i64 2, .string ⟨#[]⟩, .slice none 0 0, .slice none 0 0, .pointer none] 43 (0, 0)))
    (h3 : W.heap[c]? = some (.cells #[.pointer (some ⟨b, 0, none⟩)] 33 (0, 0))) (h4 : W.heap[d]? = some (.cells #[.int .i64 7, .string ⟨#[]⟩, .slice (some ⟨a, 0, none⟩) 1 1, .slice (some ⟨c, 0, none⟩) 1 1, .pointer none] 43 (0, 0))) : TyAt W S tRec (.pointer (some ⟨d, 0, none⟩)) := by
  unfold tRec tInt
  simp only [TyAt, TysAt]
  refine ⟨d, _, _, _, rfl, hd, h4, .inr ⟨a, 0, 1, _, (0, 0), rfl, by decide, ha, h1, ?_⟩, ⟨[.pointer (some ⟨b, 0, none⟩)], .inr ⟨c, 0, 1, _, (0, 0), rfl, by simp, hc, h3, ?_⟩, _, [], rfl, ⟨b, _, _, _, rfl, hb, h2, .inl ⟨rfl, none, 0, rfl⟩, ⟨[], .inl ⟨rfl, none, 0, rfl⟩, rfl⟩, rfl⟩, rfl⟩, rfl⟩
  · intro i x hx
    cases i with
    | zero => simpa using hx
    | succ i => simp at hx
  · intro i x hx
    cases i with
    | zero => simpa using hx
    | succ i => simp at hx

theorem int_at {W : World} {S : Nat → Prop} {b : Nat} (hb : S b) (h2 : W.heap[b]? = some (.cells #[.int .i64 2, .string ⟨#[]⟩, .slice none 0 0, .slice none 0 0, .pointer none] 43 (0, 0))) : TyAt W S tInt (.pointer (some ⟨b, 0, none⟩)) := by
  unfold tInt
  simp only [TyAt, TysAt]
  exact ⟨b, _, _, _, rfl, hb, h2, .inl ⟨rfl, none, 0, rfl⟩, ⟨[], .inl ⟨rfl, none, 0, rfl⟩, rfl⟩, rfl⟩

theorem record_calls (w : World) : Calls Tryd.prog 11 #[] w fun e w' => ∃ v, e = .returned v ∧ TyAt w' (fun k => w.heap.size ≤ k) tRec v ∧ Below w.heap.size w w' := by
  have hB : Below w.heap.size w ((((w.alloc (.cells #[.string ⟨#[97]⟩] 9)).alloc (.cells #[.int .i64 2, .string ⟨#[]⟩, .slice none 0 0, .slice none 0 0, .pointer none] 43)).alloc (.cells #[.pointer (some ⟨w.heap.size + 1, 0, none⟩)] 33)).alloc
      (.cells #[.int .i64 7, .string ⟨#[]⟩, .slice (some ⟨w.heap.size, 0, none⟩) 1 1, .slice (some ⟨w.heap.size + 1 + 1, 0, none⟩) 1 1, .pointer none] 43)) :=
    ((((Below.refl _ w).alloc (Nat.le_refl _) _).alloc (by simp only [World.size_alloc]; omega) _).alloc (by simp only [World.size_alloc]; omega) _).alloc (by simp only [World.size_alloc]; omega) _
  have hT : TyAt ((((w.alloc (.cells #[.string ⟨#[97]⟩] 9)).alloc (.cells #[.int .i64 2, .string ⟨#[]⟩, .slice none 0 0, .slice none 0 0, .pointer none] 43)).alloc (.cells #[.pointer (some ⟨w.heap.size + 1, 0, none⟩)] 33)).alloc
      (.cells #[.int .i64 7, .string ⟨#[]⟩, .slice (some ⟨w.heap.size, 0, none⟩) 1 1, .slice (some ⟨w.heap.size + 1 + 1, 0, none⟩) 1 1, .pointer none] 43)) (fun k => w.heap.size ≤ k) tRec (.pointer (some ⟨w.heap.size + 1 + 1 + 1, 0, none⟩)) := by
    refine rec_at (a := w.heap.size) (b := w.heap.size + 1) (c := w.heap.size + 1 + 1) (by simp) (by omega) (by omega) (by omega) ?_ ?_ ?_ ?_
    · rw [alc_old _ _ (by simp only [World.size_alloc]; omega), alc_old _ _ (by simp only [World.size_alloc]; omega), alc_old _ _ (by simp only [World.size_alloc]; omega)]; exact alc_new w _
    · rw [alc_old _ _ (by simp only [World.size_alloc]; omega), alc_old _ _ (by simp only [World.size_alloc]; omega)]
      have := alc_new (w.alloc (.cells #[.string ⟨#[97]⟩] 9)) (.cells #[.int .i64 2, .string ⟨#[]⟩, .slice none 0 0, .slice none 0 0, .pointer none] 43)
      rwa [World.size_alloc] at this
    · rw [alc_old _ _ (by simp only [World.size_alloc]; omega)]
      have := alc_new ((w.alloc (.cells #[.string ⟨#[97]⟩] 9)).alloc (.cells #[.int .i64 2, .string ⟨#[]⟩, .slice none 0 0, .slice none 0 0, .pointer none] 43)) (.cells #[.pointer (some ⟨w.heap.size + 1, 0, none⟩)] 33)
      rwa [World.size_alloc, World.size_alloc] at this
    · have := alc_new (((w.alloc (.cells #[.string ⟨#[97]⟩] 9)).alloc (.cells #[.int .i64 2, .string ⟨#[]⟩, .slice none 0 0, .slice none 0 0, .pointer none] 43)).alloc (.cells #[.pointer (some ⟨w.heap.size + 1, 0, none⟩)] 33)) (.cells #[.int .i64 7, .string ⟨#[]⟩, .slice (some ⟨w.heap.size, 0, none⟩) 1 1, .slice (some ⟨w.heap.size + 1 + 1, 0, none⟩) 1 1, .pointer none] 43)
      rwa [World.size_alloc, World.size_alloc, World.size_alloc] at this
  have H := Lib.hid (And.intro hB hT)
  clear hB hT
  go_enter Tryd.func11, Tryd.ntmps11
  go_wp2
  go_ret
  exact ⟨_, rfl, H.out.2, H.out.1⟩

/-- a new int's type, beside a store -/
theorem fresh_int {w : World} {own : Nat → Prop} {bs be bk : Nat} {pl : Int → Site} {s : St} (h : StoreAt w own bs be bk pl s) :
    StoreAt (w.alloc (.cells #[.int .i64 2, .string ⟨#[]⟩, .slice none 0 0, .slice none 0 0, .pointer none] 43)) own bs be bk pl s ∧ TyAt (w.alloc (.cells #[.int .i64 2, .string ⟨#[]⟩, .slice none 0 0, .slice none 0 0, .pointer none] 43)) (fun k => ¬ own k) tInt (.pointer (some ⟨w.heap.size, 0, none⟩)) :=
  ⟨h.below ((Below.refl _ w).alloc (Nat.le_refl _) _), int_at (fun hk => by have := h.low _ hk; omega) (alc_new w _)⟩

theorem lenI {w : World} {own : Nat → Prop} {bs be bk : Nat} {pl : Int → Site} {s : St} (h : StoreAt w own bs be bk pl s) (n : Int) (e : (s.ents.length : Int) = n) :
    Calls Tryd.prog 9 #[.pointer (some ⟨bs, 0, none⟩)] w fun r w' => r = .returned (.int .i64 n) ∧ w = w' := by
  subst e; exact (len_calls h).mono fun _ _ ⟨h1, h2⟩ => ⟨h1, h2.symm⟩
theorem pinsI {w : World} {own : Nat → Prop} {bs be bk : Nat} {pl : Int → Site} {s : St} (h : StoreAt w own bs be bk pl s) (id n : Int) (e : s.pinsOf id = n) :
    Calls Tryd.prog 10 #[.pointer (some ⟨bs, 0, none⟩), .int .u64 id] w fun r w' => r = .returned (.int .i64 n) ∧ w = w' := by
  subst e; exact (pins_calls h id).mono fun _ _ ⟨h1, h2⟩ => ⟨h1, h2.symm⟩
theorem parts2 {w : World} {own : Nat → Prop} {bs be bk : Nat} {pl : Int → Site} (h : StoreAt w own bs be bk pl q3) :
    Calls Tryd.prog 12 #[.pointer (some ⟨bs, 0, none⟩), .int .u64 2] w fun r w' => ∃ nb no nc ab ao ac, r = .returned (.tuple #[.int .i64 7, .string ⟨#[]⟩, .slice (some ⟨nb, no, none⟩) 1 nc, .slice (some ⟨ab, ao, none⟩) 1 ac, .int .u64 0]) ∧
      w'.cell? ⟨nb, no, none⟩ = some (.string ⟨#[97]⟩) ∧ w'.cell? ⟨ab, ao, none⟩ = some (.int .u64 1) ∧ Below w.heap.size w w' := by
  have hp := parts_calls h (id := 2) (e := ⟨2, 7, ⟨#[]⟩, [⟨#[97]⟩], [1], 0, 1, 0, 4⟩) (by kernel_rfl) (by simp) (by simp)
  refine hp.mono ?_
  rintro r w' ⟨nv, av, rfl, h1, h2, h3⟩
  obtain ⟨na, nc, rfl⟩ := h1.form
  obtain ⟨aa, ac, rfl⟩ := h2.form
  obtain ⟨nb, no, rfl, hn⟩ := slAt_cell (j := 0) h1 rfl
  obtain ⟨ab, ao, rfl, ha⟩ := slAt_cell (j := 0) h2 rfl
  exact ⟨nb, no, nc, ab, ao, ac, rfl, hn, ha, h3⟩
theorem typeNone {w : World} {own : Nat → Prop} {bs be bk : Nat} {pl : Int → Site} {s : St} (h : StoreAt w own bs be bk pl s) (id : Int) (hr : s.find id = none) :
    Calls Tryd.prog 7 #[.pointer (some ⟨bs, 0, none⟩), .int .u64 id] w fun e w' => e = .returned (.tuple #[.pointer none, .bool false]) ∧ Below w.heap.size w w' :=
  (type_nil bs be bk w own pl s id h hr trivial).mono fun e w' ⟨v, he, hv, hB⟩ => ⟨by rw [he, show v = .pointer none from hv]; rfl, hB⟩

theorem chain {n : Nat} {w W W' : World} {own own' : Nat → Prop} (hB : Below n w W) (hn : n ≤ w.heap.size) (ho : ∀ k, own k → n ≤ k) (hK : Kept own W W') (hs : ∀ k, own' k → own k ∨ W.heap.size ≤ k) : Below n w W' ∧ ∀ k, own' k → n ≤ k := by
  have hs' := hB.size
  refine ⟨hB.trans (hK.below (by omega) ho), fun k hk => ?_⟩
  rcases hs k hk with h | h
  · exact ho k h
  · omega
theorem up_own {own own' : Nat → Prop} {w w' : World} {b : Nat} (h : ∀ k, own k → b ≤ k) (hk : Kept own w w') (hb : b ≤ w.heap.size) (hs : ∀ k, own' k → own k ∨ w.heap.size ≤ k) : (∀ k, own' k → b ≤ k) ∧ b ≤ w'.heap.size :=
  ⟨fun k h' => (hs k h').elim (h k) (fun h => by omega), Nat.le_trans hb hk.size⟩

set_option maxHeartbeats 4000000 in
theorem works_calls (w : World) : Calls Tryd.prog 4 #[] w fun e w' => e = .returned (.bool true) ∧ Below w.heap.size w w' := by
  have hnew := new_calls 0 (by decide) w
  go_enter Tryd.func4, Tryd.ntmps4
  go_upto_region 9 with (first
    | (go_at_call 5; refine hnew.mono ?_; clear hnew; rintro e w1 ⟨bs, be, bk, pl, rfl, hS1, hB1, hn1, hn2, hn3⟩; obtain ⟨hS1', hT1⟩ := fresh_int hS1; have hc1 := internI hS1' good0 e1 fitsInt mayInt (by decide) (by decide) (by decide) hT1; have H1 := Lib.hid (And.intro hB1 (And.intro hn1 (And.intro hn2 hn3))); clear hS1 hS1' hT1 hB1 hn1 hn2 hn3)
    | (go_at_call 8; refine hc1.mono ?_; clear hc1; rintro e w2 ⟨rfl, own2, pl2, hS2, hK2, -, hsup2⟩; obtain ⟨hS2', hT2⟩ := fresh_int hS2; have hc2 := internI hS2' good1 e2 fitsInt mayInt (by decide) (by decide) (by decide) hT2; have H2 := Lib.hid (And.intro hK2 hsup2); clear hS2 hS2' hT2 hK2 hsup2)
    | (go_at_call 8; refine hc2.mono ?_; clear hc2; rintro e w3 ⟨rfl, own3, pl3, hS3, hK3, -, hsup3⟩; have hl3 := lenI hS3 1 rfl; have hp3 := pinsI hS3 1 2 rfl; have HS3 := Lib.hid hS3; have H3 := Lib.hid (And.intro hK3 hsup3); clear hS3 hK3 hsup3)
    | (go_at_call 9; refine hl3.mono ?_; clear hl3; rintro e w4 ⟨rfl, rfl⟩)
    | (go_at_call 10; refine hp3.mono ?_; clear hp3; rintro e w4 ⟨rfl, rfl⟩)
    | (go_at_call 11; refine (record_calls _).mono ?_; rintro e w4 ⟨v4, rfl, hT4, hB4⟩; have hS4 := HS3.out.below hB4; have hc4 := internI hS4 good2 e3 fitsRec mayRec (by decide) (by decide) (by decide) (hT4.kept fun k o hk ho => ⟨ho, fun h => by have := HS3.out.low k h; omega⟩); obtain ⟨p4, hp4⟩ := tyAt_ptr hT4; subst hp4; have H4 := Lib.hid hB4; clear hS4 hT4 hB4)
    | (go_at_call 8; refine hc4.mono ?_; clear hc4; rintro e w5 ⟨rfl, own5, pl5, hS5, hK5, -, hsup5⟩; have hp5 := parts2 hS5; have H5 := Lib.hid (And.intro hS5 (And.intro hK5 hsup5)); clear hS5 hK5 hsup5)
    | (go_at_call 12; refine hp5.mono ?_; clear hp5; rintro e w6 ⟨nb, no, nc, ab, ao, ac, rfl, hn6, ha6, hB6⟩; have hS6 := H5.out.1.below hB6; have hl6 := lenI hS6 2 rfl; have hr6 := releaseI hS6 good3 e4; have H6 := Lib.hid hB6; clear hS6 hB6)
    | (go_at_call 9; refine hl6.mono ?_; clear hl6; rintro e w7 ⟨rfl, rfl⟩)
    | (go_at_call 13; refine hr6.mono ?_; clear hr6 hn6 ha6; rintro e w7 ⟨rfl, hS7, hK7⟩; have hl7 := lenI hS7 1 rfl; have H7 := Lib.hid (And.intro hS7 hK7); clear hS7 hK7)
    | (go_at_call 9; refine hl7.mono ?_; clear hl7; rintro e w8 ⟨rfl, rfl⟩))
  go_wp2_with (first
    | (go_at_call 11; refine (record_calls _).mono ?_; rintro e w9 ⟨v9, rfl, hT9, hB9⟩; have hS9 := H7.out.1.below hB9; have hc9 := internI hS9 good4 e5 fitsRec mayRec (by decide) (by decide) (by decide) (hT9.kept fun k o hk ho => ⟨ho, fun h => by have := H7.out.1.low k h; omega⟩); obtain ⟨p9, hp9⟩ := tyAt_ptr hT9; subst hp9; have H9 := Lib.hid hB9; clear hS9 hT9 hB9)
    | (go_at_call 8; refine hc9.mono ?_; clear hc9; rintro e w10 ⟨rfl, own10, pl10, hS10, hK10, -, hsup10⟩; have hr10 := releaseI hS10 good5 e6; have H10 := Lib.hid (And.intro hK10 hsup10); clear hS10 hK10 hsup10)
    | (go_at_call 13; refine hr10.mono ?_; clear hr10; rintro e w11 ⟨rfl, hS11, hK11⟩; have hr11 := releaseI hS11 good6 e7; have H11 := Lib.hid hK11; clear hS11 hK11)
    | (go_at_call 13; refine hr11.mono ?_; clear hr11; rintro e w12 ⟨rfl, hS12, hK12⟩; have hr12 := releaseI hS12 good7 e8; have H12 := Lib.hid hK12; clear hS12 hK12)
    | (go_at_call 13; refine hr12.mono ?_; clear hr12; rintro e w13 ⟨rfl, hS13, hK13⟩; have hl13 := lenI hS13 2 rfl; have hr13 := releaseI hS13 good7 e9; have H13 := Lib.hid hK13; clear hS13 hK13)
    | (go_at_call 9; refine hl13.mono ?_; clear hl13; rintro e w14 ⟨rfl, rfl⟩)
    | (go_at_call 13; refine hr13.mono ?_; clear hr13; rintro e w14 ⟨rfl, hS14, hK14⟩; have hl14 := lenI hS14 0 rfl; have hr14 := releaseI hS14 good8 e10; have H14 := Lib.hid hK14; clear hS14 hK14)
    | (go_at_call 9; refine hl14.mono ?_; clear hl14; rintro e w15 ⟨rfl, rfl⟩)
    | (go_at_call 13; refine hr14.mono ?_; clear hr14; rintro e w15 ⟨rfl, hS15, hK15⟩; have ht15 := typeNone hS15 1 rfl; have H15 := Lib.hid hK15; clear hS15 hK15)
    | (go_at_call 7; refine ht15.mono ?_; clear ht15; rintro e w16 ⟨rfl, hB16⟩))
  go_ret
  refine ⟨rfl, ?_⟩
  have hn0 : w.heap.size ≤ w.heap.size := Nat.le_refl _
  have al := fun (W : World) (hB : Below w.heap.size w W) (o : Obj) => hB.alloc hB.size o
  obtain ⟨b1, n1, n2, n3⟩ := H1.out
  obtain ⟨b2, o2⟩ := chain (al _ b1 _) hn0 (by rintro k (rfl | rfl | rfl) <;> assumption) H2.out.1 H2.out.2
  obtain ⟨b3, o3⟩ := chain (al _ b2 _) hn0 o2 H3.out.1 H3.out.2
  have b4 := b3.trans (H4.out.mono b3.size)
  obtain ⟨b5, o5⟩ := chain b4 hn0 o3 H5.out.2.1 H5.out.2.2
  have b6 := b5.trans (H6.out.mono b5.size)
  obtain ⟨b7, -⟩ := chain b6 hn0 o5 H7.out.2 (fun _ h => .inl h)
  have b9 := b7.trans (H9.out.mono b7.size)
  obtain ⟨b10, o10⟩ := chain b9 hn0 o5 H10.out.1 H10.out.2
  obtain ⟨b11, -⟩ := chain b10 hn0 o10 H11.out (fun _ h => .inl h)
  obtain ⟨b12, -⟩ := chain b11 hn0 o10 H12.out (fun _ h => .inl h)
  obtain ⟨b13, -⟩ := chain b12 hn0 o10 H13.out (fun _ h => .inl h)
  obtain ⟨b14, -⟩ := chain b13 hn0 o10 H14.out (fun _ h => .inl h)
  obtain ⟨b15, -⟩ := chain b14 hn0 o10 H15.out (fun _ h => .inl h)
  exact b15.trans (hB16.mono b15.size)
end Go.Proofs.YtlfongfoddlhjaaDoor
