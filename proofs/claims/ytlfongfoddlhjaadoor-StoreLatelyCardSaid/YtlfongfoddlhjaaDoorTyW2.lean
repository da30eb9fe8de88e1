/- Size. -/
import Derived.Test.YtlfongfoddlhjaaDoorTyW1
import Derived.RangeFuncFrom
namespace Go.Proofs.YtlfongfoddlhjaaDoor
open Go Go.RowKit Go.Shelf Go.Lod
attribute [local go_sem] Oper.semAt_some
set_option maxRecDepth 100000

theorem rst_func (P : Program) (w : World) (a : Addr) (m : Mode) (fn : Fn) (first captured : Array Value) : (store a (.func fn first captured) m).run P w = stored P w a (.func fn first captured) m := run_store P w a _ m rfl
attribute [local go_sem] rst_func

theorem walk_all (l b0 Y K N : Nat) (F : Fence) (hd : F.depth = none) (h44 : F.fn 44) (hro : F.round = none) (J Jx : List Value → World → Prop)
    (hY : ∀ m pre x W, J pre W → pre.length < N → YieldAt F m Tryd.prog l #[x] W fun e W' =>
      (e = .returned (.bool true) ∧ J (pre ++ [x]) W' ∧ KpC b0 W W') ∨ (e = .returned (.bool false) ∧ Jx (pre ++ [x]) W'))
    (hJd : ∀ s W, J s W → J s W.drew) (hYb : Y ≠ b0) (hKb : K ≠ b0) : ∀ (n : Nat) (T : Ty), T.size ≤ n → WalkAt l b0 Y K N F J Jx T
  | _, .nil, _ => walk_nil l b0 Y K N F h44 hro J Jx
  | 0, .mk .., h => by simp [Ty.size] at h
  | n + 1, .mk k nm ns gs r, h => by
    have hsz : ∀ {t : Ty} {gs : List Ty}, t ∈ gs → t.size ≤ Ty.sizeL gs := by
      intro t gs
      induction gs with
      | nil => intro h; simp at h
      | cons g gs ih =>
        intro h
        simp only [Ty.sizeL]
        rcases List.mem_cons.1 h with rfl | h
        · omega
        · have := ih h; omega
    simp only [Ty.size] at h
    exact walk_mk l b0 Y K N F hd h44 hro J Jx hY hJd hYb hKb k nm ns gs r
      (fun t ht => walk_all l b0 Y K N F hd h44 hro J Jx hY hJd hYb hKb n t (by have := hsz ht; omega))
      (walk_all l b0 Y K N F hd h44 hro J Jx hY hJd hYb hKb n r (by omega))

theorem alc_new (w : World) (o : Obj) : (w.alloc o).heap[w.heap.size]? = some o := by
  show (w.heap.push o)[w.heap.size]? = _
  simp only [Array.getElem?_push_size]
theorem alc_old (w : World) (o : Obj) {r : Nat} (h : r < w.heap.size) : (w.alloc o).heap[r]? = w.heap[r]? := by
  simp only [World.alloc, Array.getElem?_push]
  rw [if_neg (by omega)]
theorem cellq {W : World} {b i : Nat} {c : Array Value} {T : TypeId} {fz : Nat × Nat} (h : W.heap[b]? = some (.cells c T fz)) : W.cell? ⟨b, i, none⟩ = c[i]? := by
  simp only [World.cell?]; rw [h]; rfl
theorem frozq {W : World} {b i : Nat} {c : Array Value} {T : TypeId} (h : W.heap[b]? = some (.cells c T (0, 0))) : W.frozen? ⟨b, i, none⟩ = false := by
  simp only [World.frozen?]; rw [h]; rfl
theorem grownBy_of_below {W W' : World} (h : Below W.heap.size W W') : W.grownBy W' none := ⟨h.os, h.tape, h.output, h.size, fun k hk _ => h.block k hk⟩

/-- the function that 'parts' gives -/
theorem parts1_in (F : Fence) (hd : F.depth = none) (n : Nat) (h43 : F.fn 43) (h44 : F.fn 44) (hro : F.round = none) (b0 Bt : Nat) (S : Nat → Prop) (v : Value) (T : Ty) (hf : T.Fits) (w : World)
    (hb0 : b0 < w.heap.size) (hbt : Bt ≠ b0) (hBt : w.heap[Bt]? = some (.cells #[v] 33 (0, 0))) (hT : TyAt w S T v) (hS : ∀ k, S k → k ≠ b0) :
    SeqStopsK F n Tryd.prog 43 #[.pointer (some ⟨Bt, 0, none⟩)] (fun x : Value => #[x]) (KpC b0) (fun ys => ys.length = T.size) (fun _ => True) T.size w := by
  intro l J Jx W hW hJ hJx hY h0
  have hdd : ∀ k : Nat, (F.depth.isSome = true → 1 ≤ k) := fun k h => by rw [hd] at h; cases h
  have hlt := hW.size
  have hB0 : W.heap[Bt]? = some (.cells #[v] 33 (0, 0)) := by rw [hW.block Bt (lt_of_block hBt)]; exact hBt
  have hcl := lt_of_block hB0
  have hJd : ∀ s W, J s W → J s W.drew := fun s W h => hJ s W W.drew none h (grownBy_of_below ((Below.refl _ _).drew)) (fun r e => by cases e)
  have hwalk := walk_all l b0 W.heap.size (W.heap.size + 1) T.size F hd h44 hro J Jx (fun m pre x W hj hl => yieldAt_anyDepth hd m (hY pre x W hj hl)) hJd (by omega) (by omega) T.size T (Nat.le_refl _)
  have cBt : W.cell? ⟨Bt, 0, none⟩ = some v := by simp [World.cell?, hB0]
  have hBel : Below W.heap.size W ((W.alloc (.cells #[.func (.yield l) #[] #[]] 66)).alloc (.cells #[.func (.func 44) #[] #[.pointer (some ⟨W.heap.size, 0, none⟩), .pointer (some ⟨W.heap.size + 1, 0, none⟩)]] 66)) :=
    ((Below.refl _ W).alloc (Nat.le_refl _) _).alloc (by simp only [World.size_alloc]; omega) _
  generalize hW3 : (W.alloc (.cells #[.func (.yield l) #[] #[]] 66)).alloc (.cells #[.func (.func 44) #[] #[.pointer (some ⟨W.heap.size, 0, none⟩), .pointer (some ⟨W.heap.size + 1, 0, none⟩)]] 66) = W3 at hBel
  have hYc : W3.heap[W.heap.size]? = some (.cells #[.func (.yield l) #[] #[]] 66 (0, 0)) := by
    rw [← hW3, alc_old _ _ (by simp only [World.size_alloc]; omega)]
    exact alc_new W _
  have hKc : W3.heap[W.heap.size + 1]? = some (.cells #[.func (.func 44) #[] #[.pointer (some ⟨W.heap.size, 0, none⟩), .pointer (some ⟨W.heap.size + 1, 0, none⟩)]] 66 (0, 0)) := by
    rw [← hW3]
    have h := alc_new (W.alloc (.cells #[.func (.yield l) #[] #[]] 66)) (.cells #[.func (.func 44) #[] #[.pointer (some ⟨W.heap.size, 0, none⟩), .pointer (some ⟨W.heap.size + 1, 0, none⟩)]] 66)
    rwa [World.size_alloc] at h
  have hT3 : TyAt W3 S T v := hT.kept (fun k o hk ho => ⟨by rw [hBel.block k (by have := lt_of_block ho; omega), hW.block k (lt_of_block ho)]; exact ho, hk⟩)
  have hJ3 : J [] W3 := hJ [] W W3 none h0 (grownBy_of_below hBel) (fun r e => by cases e)
  have hcall := hwalk (n - 1) v [] W3 S hT3 hf hS hYc hKc hJ3 (by simp)
  rw [← hW3] at hcall
  clear hwalk hY hT3 hT hYc hKc hJ3 h0 hBel hW hJ hJx hJd hB0 hBt hW3
  refine callsIn_of_wp Tryd.func43 rfl h43 ?_ hro
  simp only [Tryd.ntmps43, List.size_toArray, List.length_cons, List.length_nil, Nat.reduceAdd, Nat.reduceSub, Array.replicate_succ, Array.replicate_zero, List.push_toArray, List.append_toArray, List.nil_append, List.cons_append]
  gi_wp2_with ((try refine ⟨hdd _, ?_⟩); gi_at_call 44; refine hcall.mono ?_; clear hcall; rintro e W2 (⟨rfl, ys, hys, hJ2, hk2⟩ | ⟨rfl, q, hq⟩))
  · go_end0
    exact ⟨⟨_, rfl⟩, .inl ⟨_, hys, by simpa using hJ2⟩⟩
  · go_end0
    exact ⟨⟨_, rfl⟩, .inr ⟨_, trivial, hq⟩⟩

theorem parts_in (F : Fence) (n : Nat) (h28 : F.fn 28) (hro : F.round = none) (v : Value) (hv : v.oneCell' = true) (w : World) :
    CallsIn F n Tryd.prog 28 #[v] w fun e w' => e = .returned (.func (.func 43) #[] #[.pointer (some ⟨w.heap.size, 0, none⟩)]) ∧ w' = w.alloc (.cells #[v] 33) := by
  refine callsIn_of_wp Tryd.func28 rfl h28 ?_ hro
  simp only [Tryd.ntmps28, List.size_toArray, List.length_cons, List.length_nil, Nat.reduceAdd, Nat.reduceSub, Array.replicate_succ, Array.replicate_zero, List.push_toArray, List.append_toArray, List.nil_append, List.cons_append]
  gi_wp2
  go_ret
  exact ⟨rfl, rfl⟩

theorem tyAt_ptr {w : World} {S : Nat → Prop} {T : Ty} {v : Value} (h : TyAt w S T v) : ∃ p, v = .pointer p := by
  cases T with
  | nil => exact ⟨none, h⟩
  | mk => obtain ⟨b, _, _, _, h1, _⟩ := h; exact ⟨_, h1⟩

set_option maxHeartbeats 4000000 in
theorem size_calls (T : Ty) (v : Value) (w : World) (S : Nat → Prop) (hT : TyAt w S T v) (hS : ∀ k, S k → k < w.heap.size) (hf : T.Fits) (hn : T.size ≤ 60) :
    Calls Tryd.prog 20 #[v] w fun e w' => e = .returned (.int .i64 T.size) ∧ Below w.heap.size w w' := by
  obtain ⟨p, rfl⟩ := tyAt_ptr hT
  refine (callsIn_wide (n := 5)).1 ?_
  refine callsIn_of_wp_marks Tryd.func20 rfl trivial ?_ rfl
  simp only [Tryd.ntmps20, List.size_toArray, List.length_cons, List.length_nil, Nat.reduceAdd, Nat.reduceSub, Array.replicate_succ, Array.replicate_zero, List.push_toArray, List.append_toArray, List.nil_append, List.cons_append]
  gi_wp2_with (refine ⟨trivial, ?_⟩; gi_at_call 28; refine (parts_in Fence.wide 4 trivial rfl _ rfl _).mono ?_; rintro e w' ⟨rfl, rfl⟩)
  have hsz1 : (w.alloc (.cells #[.int .i64 0] 3)).heap.size = w.heap.size + 1 := by simp only [World.size_alloc]
  have hn0 : (w.alloc (.cells #[.int .i64 0] 3)).heap[w.heap.size]? = some (.cells #[.int .i64 0] 3 (0, 0)) := alc_new w _
  have hBel : Below w.heap.size w ((w.alloc (.cells #[.int .i64 0] 3)).alloc (.cells #[.pointer p] 33)) := ((Below.refl _ w).alloc (Nat.le_refl _) _).alloc (by rw [hsz1]; omega) _
  have hbt := alc_new (w.alloc (.cells #[.int .i64 0] 3)) (.cells #[.pointer p] 33)
  rw [hsz1] at hbt
  have hn1 : ((w.alloc (.cells #[.int .i64 0] 3)).alloc (.cells #[.pointer p] 33)).heap[w.heap.size]? = some (.cells #[.int .i64 0] 3 (0, 0)) := by rw [alc_old _ _ (by rw [hsz1]; omega)]; exact hn0
  have hT1 : TyAt ((w.alloc (.cells #[.int .i64 0] 3)).alloc (.cells #[.pointer p] 33)) S T (.pointer p) := hT.kept (fun k o hk ho => ⟨by rw [hBel.block k (lt_of_block ho)]; exact ho, hk⟩)
  refine wpIn_rangeFunc_ownF rfl (by omega) (gf := 43) (lb := #[.pointer (some ⟨w.heap.size + 1, 0, none⟩)]) rfl trivial (enters_of Tryd.func43 (by kernel_rfl) rfl)
    (parts1_in Fence.wide rfl (5 - 1) trivial trivial rfl w.heap.size (w.heap.size + 1) S (.pointer p) T hf _ (by simp only [World.size_alloc]; omega) (by omega) hbt hT1 (fun k hk => by have := hS k hk; omega))
    (fun h k => h.trans k) (fun W l o o' _ hl hc _ => ?kb) (Below.refl _ _) (fun _ => rfl)
    (fun pre W => W.heap[w.heap.size]? = some (.cells #[.int .i64 pre.length] 3 (0, 0)) ∧ Below w.heap.size w W)
    (fun _ _ _ => False)
    (fun s A B row hs hg hr => ⟨?own1, ?own2⟩)
    (fun _ _ _ _ _ hs _ _ => hs)
    ⟨hn1, hBel⟩
    (fun x => { tmps := #[.pointer p, undef, .int .i64 0, .pointer (some ⟨w.heap.size, 0, none⟩), .pointer p, .func (.func 43) #[] #[.pointer (some ⟨w.heap.size + 1, 0, none⟩)], x, undef, undef, undef, undef, undef], defers := [] }) ?assign ?body ?done ?stop
  case kb =>
    intro k c T' fz hk hkc
    by_cases hkl : k = l
    · subst hkl; rw [hkc] at hl; cases hl; simp [Obj.isCells] at hc
    · rw [(grownBy_putObj' W l o').block k (lt_of_block hkc) (by simp; omega)]; exact hkc
  case own1 =>
    rw [hg.block _ (lt_of_block hs.1) (fun e => by obtain ⟨_, o, ho, hc⟩ := hr _ e.symm; rw [hs.1] at ho; cases ho; simp [Obj.isCells] at hc)]
    exact hs.1
  case own2 =>
    exact hs.2.grown hg hs.2.size (fun k e => by have := (hr k e).1; have := hBel.size; omega)
  case assign =>
    intro l x W K hK
    gi_wp2
    simpa using hK
  case body =>
    rintro l pre x W ⟨hc, hB⟩ hlen
    have hcc : W.cell? ⟨w.heap.size, 0, none⟩ = some (.int .i64 pre.length) := cellq hc
    have hff : W.frozen? ⟨w.heap.size, 0, none⟩ = false := frozq hc
    have hd : decide ((60 : Int) < (pre.length : Int) + 1) = false := decide_eq_false (by omega)
    have hw : wrap64 ((pre.length : Int) + 1) = pre.length + 1 := by unfold wrap64; omega
    gi_wp2
    refine ⟨KeepsOthers.setCell _ _ _, ?_, ?_, hB.setCell (p := ⟨w.heap.size, 0, none⟩) (Nat.le_refl _) _⟩
    · intro k c T' fz hk hkc
      rw [Below.heap_setCell _ _ _ _ (by simpa using hk)]; exact hkc
    · rw [Go.Lod.heap_setCell_same hc]; simp
  case done =>
    rintro D ys W hD hys ⟨hc, hB⟩ hK
    rw [hys] at hc
    have hcc : W.cell? ⟨w.heap.size, 0, none⟩ = some (.int .i64 T.size) := cellq hc
    gi_wp2
    refine ⟨by simp, .inl ⟨_, _, rfl, run_takeDeferred hK, ?_⟩⟩
    refine ⟨_, results_tmp rfl _ _ _, rfl, ?_⟩
    have := hBel.size
    exact hB.trans (belowK_b (w := w) (Nat.le_refl _) W D _ _ (by omega) hK rfl rfl)
  case stop =>
    rintro D c pre W _ _ h _
    exact h.elim
end Go.Proofs.YtlfongfoddlhjaaDoor
