/- Size: the walk through a type's parts. -/
import Derived.RangeFuncNested
import Derived.RangeFuncBound
import Derived.RangeFuncCalls
import Derived.RangeFuncLeaves
import Derived.Shelf.Abstract
import Derived.Shelf.RegionOpen
import Derived.WalkKit
import Derived.OwnWalkIn
import Derived.TacticsInMore
import Derived.LoopNIn
import Derived.LoopIn
import Derived.Lib.Hide
import Derived.Test.YtlfongfoddlhjaaDoorStoreG
import Derived.Test.YtlfongfoddlhjaaDoorStW5
namespace Go.Proofs.YtlfongfoddlhjaaDoor
open Go Go.RowKit Go.Shelf Go.Lod
attribute [local go_sem] Oper.semAt_some
set_option maxRecDepth 100000

theorem room_of_none {F : Fence} (hd : F.depth = none) (k : Nat) : F.room k := fun d h => by rw [hd] at h; cases h
theorem roundIn_anyDepth {F : Fence} (hd : F.depth = none) {m m' : Nat} {P : Program} {l : Nat} {f : FuncId} {tmps : Array Value} {assign body : Code} {w : World} {R : Ending → World → Prop}
    (h : RoundIn F m P l f tmps assign body w R) : RoundIn F m' P l f tmps assign body w R := ⟨h.1, fun c cs _ => h.2 c cs (room_of_none hd _)⟩
theorem yieldAt_anyDepth {F : Fence} (hd : F.depth = none) {m : Nat} (m' : Nat) {P : Program} {l : Nat} {args : Array Value} {W : World} {R : Ending → World → Prop} (h : YieldAt F m P l args W R) : YieldAt F m' P l args W R := by
  obtain ⟨fn, tmps, assign, body, hy, hR⟩ := h
  exact ⟨fn, tmps, assign, body, hy, roundIn_anyDepth hd hR⟩

/-- what a round keeps: all cells, but block b0's -/
def KpC (b0 : Nat) (A B : World) : Prop := ∀ (k : Nat) (c : Array Value) (T : TypeId) (fz : Nat × Nat), k ≠ b0 → A.heap[k]? = some (Obj.cells c T fz) → B.heap[k]? = some (Obj.cells c T fz)
theorem KpC.refl (b0 : Nat) (A : World) : KpC b0 A A := fun _ _ _ _ _ h => h
theorem KpC.trans {b0 : Nat} {A B C : World} (h : KpC b0 A B) (k : KpC b0 B C) : KpC b0 A C := fun i c T fz hi hc => k i c T fz hi (h i c T fz hi hc)
theorem KpC.cell {b0 : Nat} {A B : World} (h : KpC b0 A B) {b i : Nat} {c : Array Value} {T : TypeId} {fz : Nat × Nat} (hb : b ≠ b0) (hc : A.heap[b]? = some (Obj.cells c T fz)) : B.cell? ⟨b, i, none⟩ = c[i]? := by
  simp [World.cell?, h b c T fz hb hc]

def WalkAt (l b0 Y K N : Nat) (F : Fence) (J Jx : List Value → World → Prop) (T : Ty) : Prop :=
  ∀ (n : Nat) (v : Value) (pre : List Value) (W : World) (S : Nat → Prop), TyAt W S T v → T.Fits → (∀ k, S k → k ≠ b0) →
    W.heap[Y]? = some (.cells #[.func (.yield l) #[] #[]] 66 (0, 0)) → W.heap[K]? = some (.cells #[.func (.func 44) #[] #[.pointer (some ⟨Y, 0, none⟩), .pointer (some ⟨K, 0, none⟩)]] 66 (0, 0)) →
    J pre W → pre.length + T.size ≤ N →
    CallsIn F n Tryd.prog 44 #[v, .pointer (some ⟨Y, 0, none⟩), .pointer (some ⟨K, 0, none⟩)] W fun e W' =>
      (e = .returned (.bool true) ∧ ∃ xs : List Value, xs.length = T.size ∧ J (pre ++ xs) W' ∧ KpC b0 W W') ∨ (e = .returned (.bool false) ∧ ∃ q, Jx (pre ++ q) W')

theorem walk_nil (l b0 Y K N : Nat) (F : Fence) (h44 : F.fn 44) (hro : F.round = none) (J Jx : List Value → World → Prop) : WalkAt l b0 Y K N F J Jx .nil := by
  intro n v pre W S hT _ _ hY hK hJ hN
  obtain rfl : v = .pointer none := hT
  refine callsIn_of_wp Tryd.func44 rfl h44 ?_ hro
  simp only [Tryd.ntmps44, List.size_toArray, List.length_cons, List.length_nil, Nat.reduceAdd, Nat.reduceSub, Array.replicate_succ, Array.replicate_zero, List.push_toArray, List.append_toArray, List.nil_append, List.cons_append]
  gi_wp2
  go_ret
  exact .inl ⟨rfl, [], rfl, by simpa using hJ, KpC.refl _ _⟩

theorem slAt_keptC {b0 : Nat} {W W' : World} (h : KpC b0 W W') {S : Nat → Prop} (hS : ∀ k, S k → k ≠ b0) {T : TypeId} {v : Value} {xs : List Value} (hs : SlAt W S T v xs) : SlAt W' S T v xs := by
  rcases hs with hs | ⟨b, off, c, cur, fz, h1, h2, h3, h4, h5⟩
  · exact .inl hs
  · exact .inr ⟨b, off, c, cur, fz, h1, h2, h3, h _ _ _ _ (hS _ h3) h4, h5⟩
mutual
theorem tyAt_keptC {b0 : Nat} {W W' : World} (h : KpC b0 W W') {S : Nat → Prop} (hS : ∀ k, S k → k ≠ b0) : ∀ (T : Ty) (v : Value), TyAt W S T v → TyAt W' S T v
  | .nil, v, hT => hT
  | .mk k nm ns gs r, v, hT => by
    obtain ⟨b, nv, av, rv, h1, h2, h3, h4, ⟨ps, h5, h6⟩, h7⟩ := hT
    exact ⟨b, nv, av, rv, h1, h2, h _ _ _ _ (hS _ h2) h3, slAt_keptC h hS h4, ⟨ps, slAt_keptC h hS h5, tysAt_keptC h hS gs ps h6⟩, tyAt_keptC h hS r rv h7⟩
theorem tysAt_keptC {b0 : Nat} {W W' : World} (h : KpC b0 W W') {S : Nat → Prop} (hS : ∀ k, S k → k ≠ b0) : ∀ (ts : List Ty) (ps : List Value), TysAt W S ts ps → TysAt W' S ts ps
  | [], ps, hT => hT
  | t :: ts, ps, hT => by
    obtain ⟨p, qs, h1, h2, h3⟩ := hT
    exact ⟨p, qs, h1, tyAt_keptC h hS t p h2, tysAt_keptC h hS ts qs h3⟩
end

theorem fits_mem' {t : Ty} : ∀ {gs : List Ty}, Ty.FitsL gs → t ∈ gs → t.isNil = false ∧ t.Fits
  | [], _, h => by simp at h
  | g :: gs, hf, h => by
    obtain ⟨h1, h2, h3⟩ := hf
    rcases List.mem_cons.1 h with rfl | h
    · exact ⟨h1, h2⟩
    · exact fits_mem' h3 h
theorem sizeL_take_succ (gs : List Ty) (k : Nat) {t : Ty} (h : gs[k]? = some t) : Ty.sizeL (gs.take (k + 1)) = Ty.sizeL (gs.take k) + t.size := by
  induction gs generalizing k with
  | nil => simp at h
  | cons g gs ih =>
    cases k with
    | zero => simp at h; subst h; simp [Ty.sizeL]
    | succ k =>
      have := ih k (by simpa using h)
      simp only [List.take_succ_cons, Ty.sizeL]
      omega
theorem sizeL_take_le (gs : List Ty) (k : Nat) : Ty.sizeL (gs.take k) ≤ Ty.sizeL gs := by
  induction gs generalizing k with
  | nil => simp
  | cons g gs ih =>
    cases k with
    | zero => simp [Ty.sizeL]
    | succ k => have := ih k; simp only [List.take_succ_cons, Ty.sizeL]; omega

/-- at the head of the loop over the parts -/
def WHead (b0 N : Nat) (J : List Value → World → Prop) (pre : List Value) (gs : List Ty) (W : World) (i : Value) (W' : World) : Prop :=
  ∃ (j : Nat) (xs : List Value), i = .int .i64 j ∧ j ≤ gs.length ∧ xs.length = 1 + Ty.sizeL (gs.take j) ∧ J (pre ++ xs) W' ∧ KpC b0 W W'

set_option maxHeartbeats 4000000 in
theorem walk_mk (l b0 Y K N : Nat) (F : Fence) (hd : F.depth = none) (h44 : F.fn 44) (hro : F.round = none) (J Jx : List Value → World → Prop)
    (hY : ∀ m pre x W, J pre W → pre.length < N → YieldAt F m Tryd.prog l #[x] W fun e W' =>
      (e = .returned (.bool true) ∧ J (pre ++ [x]) W' ∧ KpC b0 W W') ∨ (e = .returned (.bool false) ∧ Jx (pre ++ [x]) W'))
    (hJd : ∀ s W, J s W → J s W.drew) (hYb : Y ≠ b0) (hKb : K ≠ b0) (k : Int) (nm : ByteArray) (ns : List ByteArray) (gs : List Ty) (r : Ty) (ihg : ∀ t ∈ gs, WalkAt l b0 Y K N F J Jx t) (ihr : WalkAt l b0 Y K N F J Jx r) : WalkAt l b0 Y K N F J Jx (.mk k nm ns gs r) := by
  intro n v pre W S hT hf hS hYc hKc hJ hN
  obtain ⟨hf1, hf2, hf3, hf4, hf5⟩ := hf
  have hdd : ∀ k : Nat, (F.depth.isSome = true → 1 ≤ k) := fun k h => by rw [hd] at h; cases h
  obtain ⟨tb, nv, av, rv, rfl, htb, hth, hnv, ⟨ps, hav, hps⟩, hrv⟩ := hT
  have htb0 := hS tb htb
  simp only [Ty.size] at hN
  obtain ⟨aa, ac, rfl⟩ := hav.form
  have hpl : ps.length = gs.length := TysAt.length gs ps hps
  rw [hpl] at hav hth
  have cY : ∀ W', KpC b0 W W' → W'.cell? ⟨Y, 0, none⟩ = some (.func (.yield l) #[] #[]) := fun W' h => by rw [h.cell hYb hYc]; rfl
  have cK : ∀ W', KpC b0 W W' → W'.cell? ⟨K, 0, none⟩ = some (.func (.func 44) #[] #[.pointer (some ⟨Y, 0, none⟩), .pointer (some ⟨K, 0, none⟩)]) := fun W' h => by rw [h.cell hKb hKc]; rfl
  have c3 : ∀ W', KpC b0 W W' → W'.cell? ⟨tb, 3, none⟩ = some (.slice aa gs.length ac) := fun W' h => by rw [h.cell htb0 hth]; rfl
  have c4 : ∀ W', KpC b0 W W' → W'.cell? ⟨tb, 4, none⟩ = some rv := fun W' h => by rw [h.cell htb0 hth]; rfl
  have hy := YieldAt.mono (hY (n - 1) pre (.pointer (some ⟨tb, 0, none⟩)) W hJ (by omega)) (R' := fun e W' => (e = .returned (.bool true) ∧ W'.cell? ⟨tb, 3, none⟩ = some (.slice aa gs.length ac) ∧ J (pre ++ [.pointer (some ⟨tb, 0, none⟩)]) W' ∧ KpC b0 W W') ∨ (e = .returned (.bool false) ∧ Jx (pre ++ [.pointer (some ⟨tb, 0, none⟩)]) W'))
    (fun e W' h => h.elim (fun ⟨h1, h2, h3⟩ => .inl ⟨h1, c3 _ h3, h2, h3⟩) .inr)
  obtain ⟨fn, tmps, assign, body, hy, hR⟩ := hy
  have y0 := cY W (KpC.refl _ _)
  have HC := Lib.hid (And.intro cY (And.intro cK c4))
  clear cY cK c3 c4
  refine callsIn_of_wp Tryd.func44 rfl h44 ?_ hro
  simp only [Tryd.ntmps44, List.size_toArray, List.length_cons, List.length_nil, Nat.reduceAdd, Nat.reduceSub, Array.replicate_succ, Array.replicate_zero, List.push_toArray, List.append_toArray, List.nil_append, List.cons_append]
  gi_wp2_with ((try refine ⟨hdd _, ?_⟩); refine hR.mono ?_; clear hR; rintro e W1 (⟨rfl, c31, hJ1, hk1⟩ | ⟨rfl, hx1⟩))
  · have HYK := Lib.hid (And.intro hYc hKc)
    clear hY hy y0 hYc hKc
    gi_loopw [18] (fun i W' => WHead b0 N J pre gs W i W') (fun i _ => gs.length - (intOf i).toNat)
    case atStart => exact ⟨0, _, rfl, Nat.zero_le _, rfl, hJ1, hk1⟩
    case round =>
      clear c31 hJ1 hk1
      obtain ⟨j, xs, rfl, hj, hx, hJj, hkj⟩ := hrel
      by_cases hlt : j < gs.length
      · obtain ⟨t, ht⟩ : ∃ t, gs[j]? = some t := ⟨_, List.getElem?_eq_getElem hlt⟩
        have htm : t ∈ gs := List.mem_of_getElem? ht
        obtain ⟨p, hp, htp⟩ := TysAt.get gs ps hps j t ht
        have hav' := slAt_keptC hkj hS hav
        obtain ⟨ab, aoff, rfl, hcell⟩ : ∃ ab aoff, aa = some ⟨ab, aoff, none⟩ ∧ wr.cell? ⟨ab, aoff + j, none⟩ = some p := by
          rcases hav' with ⟨h0, _⟩ | ⟨ab, aoff, c, cur, fz, h1, h2, h3, h4, h5⟩
          · rw [h0] at hp; simp at hp
          · simp only [Value.slice.injEq] at h1
            refine ⟨ab, aoff, h1.1, ?_⟩
            simp only [World.cell?, h4, Option.isSome_none, Bool.false_eq_true, if_false]
            exact h5 j p hp
        have hs1 := sizeL_take_succ gs j ht
        have hs2 := sizeL_take_le gs (j + 1)
        have hcall := (ihg t htm (n - 1) p (pre ++ xs) wr S (tyAt_keptC hkj hS t p htp) (fits_mem' hf4 htm).2 hS (hkj _ _ _ _ hYb HYK.out.1) (hkj _ _ _ _ hKb HYK.out.2) hJj (by simp only [List.length_append]; omega))
        have cK := HC.out.2.1 wr hkj
        have HX := Lib.hid (And.intro hx (And.intro hs1 hkj))
        clear hx hs1 hs2 hkj ihg htp hp htm ht hav' hav hps hpl hth hrv hnv hJ hJj ihr hN
        gi_wp2_with ((try refine ⟨hdd _, ?_⟩); gi_at_call 44; refine hcall.mono ?_; clear hcall; rintro e W2 (⟨rfl, ys, hys, hJ2, hk2⟩ | ⟨rfl, q, hq⟩))
        · refine ⟨⟨j + 1, xs ++ ys, by go_num, by omega, by rw [List.length_append, HX.out.1, hys, HX.out.2.1]; omega, by rw [← List.append_assoc]; exact hJ2, HX.out.2.2.trans hk2⟩, by simp [intOf]; omega⟩
        · go_ret
          exact .inr ⟨rfl, _, by rw [← List.append_assoc]; exact hq⟩
      · obtain rfl : j = gs.length := by omega
        have cK := HC.out.2.1 wr hkj
        have c4 := HC.out.2.2 wr hkj
        have hxl : xs.length = 1 + Ty.sizeL gs := by rw [hx, List.take_length]
        have hkd : KpC b0 W wr.drew := fun i c T fz hi hc => hkj i c T fz hi hc
        have hcall := (ihr (n - 1) rv (pre ++ xs) wr.drew S (tyAt_keptC hkd hS r rv hrv) hf5 hS (hkd _ _ _ _ hYb HYK.out.1) (hkd _ _ _ _ hKb HYK.out.2) (hJd _ _ hJj) (by simp only [List.length_append]; omega))
        have hcall := CallsIn.mono hcall (R' := fun e W' => ∃ b : Bool, e = .returned (.bool b) ∧ ((b = true ∧ ∃ ys : List Value, ys.length = r.size ∧ J (pre ++ xs ++ ys) W' ∧ KpC b0 wr.drew W') ∨ (b = false ∧ ∃ q, Jx (pre ++ xs ++ q) W')))
          (fun e W' h => h.elim (fun ⟨h1, h2⟩ => ⟨true, h1, .inl ⟨rfl, h2⟩⟩) (fun ⟨h1, h2⟩ => ⟨false, h1, .inr ⟨rfl, h2⟩⟩))
        have HX := Lib.hid (And.intro hxl hkd)
        clear hx hxl hkj hkd hJd ihg hav hps hpl hth hrv hnv hJ hJj ihr hN hlt hj
        gi_wp2_with (fail)
        gi_region_with ((try refine ⟨hdd _, ?_⟩); gi_at_call 44; refine hcall.mono ?_; rintro e W2 ⟨b, rfl, hor⟩)
        all_goals gi_wp2
        all_goals go_ret
        all_goals rcases hor with ⟨rfl, ys, hys, hJ2, hk2⟩ | ⟨rfl, q, hq⟩
        any_goals exact .inr ⟨rfl, _, by rw [← List.append_assoc]; exact hq⟩
        all_goals exact .inl ⟨rfl, xs ++ ys, by rw [List.length_append, HX.out.1, hys]; simp only [Ty.size], by rw [← List.append_assoc]; exact hJ2, HX.out.2.trans hk2⟩
  · go_ret
    exact .inr ⟨rfl, _, hx1⟩
end Go.Proofs.YtlfongfoddlhjaaDoor
