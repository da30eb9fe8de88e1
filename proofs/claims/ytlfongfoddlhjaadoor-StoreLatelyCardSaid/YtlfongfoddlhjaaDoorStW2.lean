/- The walk of the store's closure that looks for the entry that was used least lately, and of 'room'. -/
import Derived.Test.YtlfongfoddlhjaaDoorStW1
import Derived.Test.YtlfongfoddlhjaaDoorRange
namespace Go.Lod
open Go Go.RowKit

/-- the least one of those that were visited -/
def BestOf (s : St) (vis : Int → Prop) (b : Int) : Prop :=
  (b = 0 ∧ ∀ e ∈ s.ents, vis e.id → e.loose = false) ∨
  ∃ e ∈ s.ents, e.id = b ∧ e.loose = true ∧ vis e.id ∧ ∀ e' ∈ s.ents, vis e'.id → e'.loose = true → e.used ≤ e'.used

theorem leastL_spec : ∀ (l : List Ent), (leastL l = none → ∀ e ∈ l, e.loose = false) ∧ ∀ b, leastL l = some b → b ∈ l ∧ b.loose = true ∧ ∀ e ∈ l, e.loose = true → b.used ≤ e.used
  | [] => by simp [leastL]
  | x :: l => by
    obtain ⟨ih1, ih2⟩ := leastL_spec l
    unfold leastL
    cases h : leastL l with
    | none =>
      have h1 := ih1 h
      simp only
      by_cases hx : x.loose = true
      · simp only [hx, if_true]
        refine ⟨by simp, ?_⟩
        intro b hb
        simp only [Option.some.injEq] at hb
        subst hb
        refine ⟨by simp, hx, ?_⟩
        intro e he hl
        rcases List.mem_cons.1 he with rfl | he
        · omega
        · rw [h1 e he] at hl; simp at hl
      · simp only [hx]
        refine ⟨?_, by simp⟩
        intro _ e he
        rcases List.mem_cons.1 he with rfl | he
        · simpa using hx
        · exact h1 e he
    | some b0 =>
      obtain ⟨h1, h2, h3⟩ := ih2 b0 h
      simp only
      by_cases hx : (x.loose && decide (x.used ≤ b0.used)) = true
      · simp only [hx, if_true]
        simp only [Bool.and_eq_true, decide_eq_true_eq] at hx
        refine ⟨by simp, ?_⟩
        intro b hb
        simp only [Option.some.injEq] at hb
        subst hb
        refine ⟨by simp, hx.1, ?_⟩
        intro e he hl
        rcases List.mem_cons.1 he with rfl | he
        · omega
        · have := h3 e he hl; omega
      · simp only [hx]
        refine ⟨by simp, ?_⟩
        intro b hb
        simp only [Bool.false_eq_true, if_false, Option.some.injEq] at hb
        subst hb
        refine ⟨by simp [h1], h2, ?_⟩
        intro e he hl
        rcases List.mem_cons.1 he with rfl | he
        · simp only [hl, Bool.true_and, decide_eq_true_eq] at hx; omega
        · exact h3 e he hl

def St.leastId (s : St) : Int := match s.least with | none => 0 | some e => e.id

theorem best_least {s : St} {b : Int} (hu : (s.ents.map (·.used)).Nodup) (h : BestOf s (fun _ => True) b) : b = s.leastId := by
  obtain ⟨h1, h2⟩ := leastL_spec s.ents
  unfold St.leastId St.least
  cases hl : leastL s.ents with
  | none =>
    have h3 := h1 hl
    rcases h with ⟨h, _⟩ | ⟨e, he, _, hlo, _⟩
    · exact h
    · rw [h3 e he] at hlo; simp at hlo
  | some x =>
    obtain ⟨h3, h4, h5⟩ := h2 x hl
    rcases h with ⟨_, h⟩ | ⟨e, he, rfl, hlo, _, hmin⟩
    · rw [h x h3 trivial] at h4; simp at h4
    · have a1 := hmin x h3 trivial h4
      have a2 := h5 e he hlo
      have : e.used = x.used := by omega
      have : e = x := by
        clear h1 h2 hl h5 hmin a1 a2 hlo h4
        generalize s.ents = l at *
        induction l with
        | nil => simp at he
        | cons y l ih =>
          rw [List.map_cons, List.nodup_cons] at hu
          rcases List.mem_cons.1 he with rfl | he' <;> rcases List.mem_cons.1 h3 with rfl | hx'
          · rfl
          · exact absurd (List.mem_map.2 ⟨x, hx', this.symm⟩) hu.1
          · exact absurd (List.mem_map.2 ⟨e, he', this⟩) hu.1
          · exact ih hu.2 hx' he'
      simp [this]

theorem best_step {s : St} {vis : Int → Prop} {b : Int} (h : BestOf s vis b) (hnd : s.ids.Nodup) (hz : ∀ e ∈ s.ents, e.id ≠ 0) {x : Ent} (hx : x ∈ s.ents) :
    (x.loose = false → BestOf s (fun i => vis i ∨ i = x.id) b) ∧
    (x.loose = true → (b = 0 ∨ ∃ e, s.find b = some e ∧ x.used < e.used) → BestOf s (fun i => vis i ∨ i = x.id) x.id) ∧
    (x.loose = true → b ≠ 0 → (∀ e, s.find b = some e → e.used ≤ x.used) → BestOf s (fun i => vis i ∨ i = x.id) b) := by
  have huniq := fun e (he : e ∈ s.ents) (h : e.id = x.id) => uniq_of_nodup hnd hx e he h
  refine ⟨?_, ?_, ?_⟩
  · intro hl
    rcases h with ⟨rfl, h⟩ | ⟨e, he, rfl, hlo, hv, hmin⟩
    · refine .inl ⟨rfl, fun e he hv => ?_⟩
      rcases hv with hv | hv
      · exact h e he hv
      · rw [huniq e he hv]; exact hl
    · refine .inr ⟨e, he, rfl, hlo, .inl hv, fun e' he' hv' hl' => ?_⟩
      rcases hv' with hv' | hv'
      · exact hmin e' he' hv' hl'
      · rw [huniq e' he' hv', hl] at hl'; simp at hl'
  · intro hl hb
    refine .inr ⟨x, hx, rfl, hl, .inr rfl, fun e' he' hv' hl' => ?_⟩
    rcases hv' with hv' | hv'
    · rcases h with ⟨rfl, h⟩ | ⟨e, he, rfl, hlo, hv, hmin⟩
      · rw [h e' he' hv'] at hl'; simp at hl'
      · rcases hb with hb | ⟨e2, hf, hlt⟩
        · exact absurd hb (hz e he)
        · rw [St.find_of_mem hnd he] at hf
          simp only [Option.some.injEq] at hf
          subst hf
          have := hmin e' he' hv' hl'
          omega
    · rw [huniq e' he' hv']; omega
  · intro hl hb hall
    rcases h with ⟨rfl, h⟩ | ⟨e, he, rfl, hlo, hv, hmin⟩
    · exact absurd rfl hb
    · refine .inr ⟨e, he, rfl, hlo, .inl hv, fun e' he' hv' hl' => ?_⟩
      rcases hv' with hv' | hv'
      · exact hmin e' he' hv' hl'
      · rw [huniq e' he' hv']
        exact hall e (St.find_of_mem hnd he)
end Go.Lod

namespace Go.Proofs.YtlfongfoddlhjaaDoor
open Go Go.RowKit Go.Lod
set_option maxHeartbeats 400000
set_option maxRecDepth 100000

def LooseRel (w : World) (bs be : Nat) (s : St) (l : List (Int × Site × Nat)) (clk r : Nat) (v : Value) (W : World) : Prop :=
  ∃ (seen : Array Nat) (b : Int), v = .int .u64 b ∧ W.heap[r]? = some (.mapIter (some be) clk seen clk) ∧ Below r w W ∧
    BestOf s (fun id => ∃ p ∈ l, p.1 = id ∧ seen.contains p.2.2 = true) b

theorem born_inj {α β : Type} {l : List (α × β × Nat)} (h : (l.map (·.2.2)).Nodup) {p q : α × β × Nat} (hp : p ∈ l) (hq : q ∈ l) (he : p.2.2 = q.2.2) : p = q := by
  induction l with
  | nil => simp at hp
  | cons y l ih =>
    rw [List.map_cons, List.nodup_cons] at h
    rcases List.mem_cons.1 hp with rfl | hp' <;> rcases List.mem_cons.1 hq with rfl | hq'
    · rfl
    · exact absurd (List.mem_map.2 ⟨q, hq', he.symm⟩) h.1
    · exact absurd (List.mem_map.2 ⟨p, hp', he⟩) h.1
    · exact ih h.2 hp' hq'

theorem best_congr {s : St} {v v' : Int → Prop} {b : Int} (h : BestOf s v b) (hv : ∀ e ∈ s.ents, v e.id ↔ v' e.id) : BestOf s v' b := by
  rcases h with ⟨h1, h2⟩ | ⟨e, he, h1, h2, h3, h4⟩
  · exact .inl ⟨h1, fun e he hx => h2 e he ((hv e he).2 hx)⟩
  · exact .inr ⟨e, he, h1, h2, (hv e he).1 h3, fun e' he' hx => h4 e' he' ((hv e' he').2 hx)⟩

theorem loose_calls {w : World} {own : Nat → Prop} {bs be bk : Nat} {pl : Int → Site} {s : St} (h : StoreAt w own bs be bk pl s) (hnd : s.ids.Nodup) (hz : ∀ e ∈ s.ents, e.id ≠ 0) (hu : (s.ents.map (·.used)).Nodup)
    {bx : Nat} (hbx : w.cell? ⟨bx, 0, none⟩ = some (.pointer (some ⟨bs, 0, none⟩))) :
    Calls Tryd.prog 27 #[.pointer (some ⟨bx, 0, none⟩)] w fun r w' => r = .returned (.int .u64 s.leastId) ∧ Below w.heap.size w w' := by
  obtain ⟨l, clk, he, hl, hborn, hlook⟩ := h.look_id
  have c3 := h.cells.2.2.2.1
  have hrun := run_range_map w 51 28 55 be _ clk Tryd.underlying51 he
  have HL := Lib.hid hl
  have HK := Lib.hid hlook
  have HB := Lib.hid hborn
  have HE := Lib.hid he
  clear hl hlook hborn he
  go_enter Tryd.func27, Tryd.ntmps27
  go_wp2
  go_loopw [1] (LooseRel w bs be s l clk w.heap.size) (fun _ W => iterLeft l w.heap.size W)
  case atStart =>
    exact ⟨#[], 0, rfl, heap_alloc_new w _, (Below.refl _ w).alloc (Nat.le_refl _) _, .inl ⟨rfl, fun e _ ⟨p, _, _, hp⟩ => by simp at hp⟩⟩
  case round =>
    clear hrun
    obtain ⟨seen, b, rfl, hr, hB, hbest⟩ := hrel
    have hbe : wr.heap[be]? = some (.map (mEs (.int .u64) encP l) clk) := by rw [hB.block be (lt_of_block HE.out)]; exact HE.out
    rcases next_at (P := Tryd.prog) 0 hr hbe HB.out.1 (Nat.le_refl _) with ⟨hleft, hnext⟩ | ⟨p, hp, hps, W2, hnext, hr2, hoth, hsz, hos, htp, hout⟩
    · have hfin : b = s.leastId := best_least hu (best_congr hbest fun e he => ⟨fun _ => trivial, fun _ => by
        have : (e.id, pl e.id) ∈ l.map (fun p => (p.1, p.2.1)) := by rw [HL.out]; exact List.mem_map.2 ⟨e, he, rfl⟩
        obtain ⟨p, hp, hpe⟩ := List.mem_map.1 this
        refine ⟨p, hp, by simpa using congrArg Prod.fst hpe, ?_⟩
        unfold leftN at hleft
        have := List.eq_nil_of_length_eq_zero hleft
        rw [List.filter_eq_nil_iff] at this
        simpa using this p hp⟩)
      clear hleft hbest hr hbe c3
      subst hfin
      go_wp2
      go_ret
      exact ⟨rfl, hB⟩
    · obtain ⟨x, hx, hxp⟩ : ∃ x ∈ s.ents, (x.id, pl x.id) = (p.1, p.2.1) := by
        have : (p.1, p.2.1) ∈ s.ents.map (fun e => (e.id, pl e.id)) := by rw [← HL.out]; exact List.mem_map.2 ⟨p, hp, rfl⟩
        exact List.mem_map.1 this
      have hx1 : p.1 = x.id := (congrArg Prod.fst hxp).symm
      have hx2 : p.2.1 = pl x.id := (congrArg Prod.snd hxp).symm
      have hentry := entry_at (P := Tryd.prog) hr2 (by rw [hoth be (fun e => by have := lt_of_block HE.out; omega)]; exact hbe) hp HB.out.2
      have hB2 : Below w.heap.size w W2 := ⟨hos.trans hB.os, htp.trans hB.tape, hout.trans hB.output, by have := hB.size; omega, fun k hk => (hoth k (by omega)).trans (hB.block k hk)⟩
      have hS2 : StoreAt W2 own bs be bk pl s := h.below hB2
      have E2 := hS2.ents x hx
      have c3' := hS2.cells.2.2.2.1
      have cbx : W2.cell? ⟨bx, 0, none⟩ = some (.pointer (some ⟨bs, 0, none⟩)) := by rw [hB2.cell (World.block_lt_of_cell? _ _ hbx)]; exact hbx
      obtain ⟨st1, st2, st3⟩ := best_step hbest hnd hz hx
      have hlookb := fun n : Nat => look_entry (w := W2.drewN n) (hS2.kept (fun k _ => rfl) (Nat.le_refl _)) b false
      rw [hx1, hx2] at hnext hentry
      have hN : iterLeft l w.heap.size W2 < iterLeft l w.heap.size wr := by rw [iterLeft_at hr2, iterLeft_at hr]; exact leftN_push hp hps
      have hvis : ∀ b', BestOf s (fun i => (∃ q ∈ l, q.1 = i ∧ seen.contains q.2.2 = true) ∨ i = x.id) b' → BestOf s (fun i => ∃ q ∈ l, q.1 = i ∧ (seen.push p.2.2).contains q.2.2 = true) b' := by
        intro b' hb'
        refine best_congr hb' fun e _ => ⟨?_, ?_⟩
        · rintro (⟨q, hq, hqe, hqs⟩ | h)
          · exact ⟨q, hq, hqe, by rw [contains_push, hqs]; rfl⟩
          · exact ⟨p, hp, hx1.trans h.symm, by rw [contains_push]; simp⟩
        · rintro ⟨q, hq, hqe, hqs⟩
          rw [contains_push] at hqs
          cases hqs' : seen.contains q.2.2 with
          | true => exact .inl ⟨q, hq, hqe, hqs'⟩
          | false =>
            right
            rw [hqs', Bool.false_or, beq_iff_eq] at hqs
            have : q = p := born_inj HB.out.2 hq hp hqs
            rw [← hqe, this, hx1]
      have hrel : ∀ (v : Int), BestOf s (fun i => (∃ q ∈ l, q.1 = i ∧ seen.contains q.2.2 = true) ∨ i = x.id) v → ∀ W3 : World, W3 = W2 ∨ (∃ n, W3 = W2.drewN n) → LooseRel w bs be s l clk w.heap.size (.int .u64 v) W3 := by
        intro v hv W3 hW3
        obtain ⟨n, rfl⟩ : ∃ n, W3 = W2.drewN n := by
          rcases hW3 with rfl | h
          · exact ⟨0, rfl⟩
          · exact h
        exact ⟨_, v, rfl, hr2, ⟨hB2.os, hB2.tape, hB2.output, hB2.size, hB2.block⟩, hvis v hv⟩
      have hmeas : ∀ n, iterLeft l w.heap.size (W2.drewN n) < iterLeft l w.heap.size wr := fun n => hN
      have hfb : b ≠ 0 → ∃ eb yb, s.find b = some eb ∧ (∀ n, (Instr.lookup 51 (.map (some be)) (.int .u64 b) false).run Tryd.prog (W2.drewN n) = .ok (.pointer (some ⟨yb, 0, none⟩)) (W2.drewN n)) ∧ W2.cell? ⟨yb, 9, none⟩ = some (.int .u64 eb.used) := by
        intro hb0
        rcases hbest with ⟨h0, _⟩ | ⟨eb, heb, rfl, _, _, _⟩
        · exact absurd h0 hb0
        · have hf := St.find_of_mem hnd heb
          rw [hf] at hlookb
          exact ⟨eb, _, hf, hlookb, (hS2.ents eb heb).cells.2.2.2.2.2.2.2.2.2⟩
      have cp := E2.cells.2.2.2.2.2.2.2.1
      have ch := E2.cells.2.2.2.2.2.2.2.2.1
      have cu := E2.cells.2.2.2.2.2.2.2.2.2
      simp only [encP] at hnext hentry
      generalize (pl x.id).blk = xb at hnext hentry cp ch cu
      have HN := Lib.hid hmeas
      have HREL := Lib.hid hrel
      have H1 := Lib.hid st1
      have H2 := Lib.hid st2
      have H3 := Lib.hid st3
      have HFB := Lib.hid hfb
      clear hbest hr hB hbe hoth hsz hos htp hout hr2 hS2 E2 hB2 hvis hN hrel st1 st2 st3 hx hxp hx1 hx2 hp hps c3 hbx hlookb hfb hmeas
      by_cases h1 : x.pins = 0
      · have g1 : (x.pins == 0) = true := beq_iff_eq.2 h1
        by_cases h2 : x.held = 0
        · have g2 : (x.held == 0) = true := beq_iff_eq.2 h2
          have HG := Lib.hid (show x.loose = true by simp [Ent.loose, g1, g2])
          by_cases h3 : b = 0
          · have g3 : (b == 0) = true := beq_iff_eq.2 h3
            have HB0 := Lib.hid h3
            clear h1 h2 h3
            go_wp2
            go_quiet (fail)
            go_wp2
            go_roundw
            case rel => exact HREL.out _ (H2.out HG.out (.inl HB0.out)) _ (.inr ⟨_, rfl⟩)
            case measure => exact HN.out _
          · have g3 : (b == 0) = false := beq_eq_false_iff_ne.2 h3
            obtain ⟨eb, yb, hf, hlk, hcu⟩ := HFB.out h3
            have HF := Lib.hid hf
            have HB0 := Lib.hid h3
            clear h1 h2 h3 hf
            by_cases h4 : x.used < eb.used
            · have g4 : decide (x.used < eb.used) = true := decide_eq_true h4
              have H4 := Lib.hid h4
              clear h4
              go_wp2
              go_quiet (fail)
              go_wp2
              go_roundw
              case rel => exact HREL.out _ (H2.out HG.out (.inr ⟨eb, HF.out, H4.out⟩)) _ (.inr ⟨_, rfl⟩)
              case measure => exact HN.out _
            · have g4 : decide (x.used < eb.used) = false := decide_eq_false h4
              have H4 := Lib.hid h4
              clear h4
              go_wp2
              go_quiet (fail)
              go_wp2
              go_roundw
              case rel => exact HREL.out _ (H3.out HG.out HB0.out fun e he => by rw [HF.out] at he; simp only [Option.some.injEq] at he; have := H4.out; subst he; omega) _ (.inr ⟨_, rfl⟩)
              case measure => exact HN.out _
        · have g2 : (x.held == 0) = false := beq_eq_false_iff_ne.2 h2
          have HG := Lib.hid (show x.loose = false by simp [Ent.loose, g2])
          clear h1 h2
          go_wp2
          go_quiet (fail)
          go_wp2
          go_roundw
          case rel => exact HREL.out _ (H1.out HG.out) _ (.inr ⟨_, rfl⟩)
          case measure => exact HN.out _
      · have g1 : (x.pins == 0) = false := beq_eq_false_iff_ne.2 h1
        have HG := Lib.hid (show x.loose = false by simp [Ent.loose, g1])
        clear h1
        go_wp2
        go_quiet (fail)
        go_wp2
        go_roundw
        case rel => exact HREL.out _ (H1.out HG.out) _ (.inr ⟨_, rfl⟩)
        case measure => exact HN.out _
end Go.Proofs.YtlfongfoddlhjaaDoor
