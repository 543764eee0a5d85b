/- Texts merged. -/
import Derived.Test.YthhmjfjkbmmcaaaSA
import Derived.Test.YthhmjfjkbmmcaaaSC
import Derived.Test.YthhmjfjkbmmcaaaSB
import Derived.Test.YthhmjfjkbmmcaaaSD
import Derived.Deep.RegionWith
-- written by a program of this session's own (gprint.py), after the kit's print
namespace Go.Proofs.Ythhmjfjkbmmcaaa.GCS
open Go.RowKit Go.Proofs.YthhmjfjkbmmcaaaW.PrintWords Go.Proofs.YthhmjfjkbmmcaaaW.PrintLast Go.Proofs.YthhmjfjkbmmcaaaW.PrintMore
attribute [local go_sem] max2_int min2_int max_two min_two max_three min_three max_four min_four   -- for this text's walks alone
set_option linter.unusedVariables false
set_option linter.unusedSimpArgs false

/-! ### clean_made: function 23 -/
def clean_made.l0 : Nat → List (List Int) → Int → Int → Int → List (List Int) → Option (Int × (List (List Int)))
  | 0, _, _, _, _, _ => none
  | k + 1, x11, x12, x13, x114000, x114001 => if x13 < x12 then (if 0 ≤ x13 then (if x13 < (x11.length : Int) then ((api_Clause_int.f (rd_L1 x11 x13)).bind fun t115 => (if x114001.length < 5864062014805 then (clean_made.l0 k x11 x12 (wrap64 (x13 + 1)) x114000 (x114001 ++ [t115])) else (none))) else (none)) else (none)) else (some (x114000, x114001))
def clean_made.f (k : Nat) (a0_0 : Int) (l0_1 : List (List Int)) (l1 : List (List Int)) : Option (Int × (List (List Int))) := clean_made.l0 k l1 (l1.length : Int) 0 a0_0 ([] : List (List Int))
theorem clean_made.mono_l : ∀ k, (∀ y0 y1 y2 y3 y4, LeO (clean_made.l0 k y0 y1 y2 y3 y4) (clean_made.l0 (k + 1) y0 y1 y2 y3 y4))
  | 0 => fun _ _ _ _ _ r h => by simp [clean_made.l0] at h
  | k + 1 => by
    have ih0 := clean_made.mono_l k
    · intro y0 y1 y2 y3 y4
      unfold clean_made.l0
      repeat' first
      | (with_reducible exact ih0 _ _ _ _ _)
      | (with_reducible exact LeO.refl _)
      | (with_reducible exact LeO.none _)
      | (with_reducible refine LeO.ite ?_ ?_)
      | (with_reducible refine LeO.bind ?_ (fun _ => ?_))
      | exact ih0 _ _ _ _ _
      | exact LeO.none _
      | refine LeO.ite ?_ ?_
      | refine LeO.bind ?_ (fun _ => ?_)
theorem clean_made.mono : ∀ a0 a1 a2 k, LeO (clean_made.f k a0 a1 a2) (clean_made.f (k + 1) a0 a1 a2) := by
  intro a0 a1 a2 k
  have ih0 := clean_made.mono_l k
  unfold clean_made.f
  repeat' first
      | (with_reducible exact ih0 _ _ _ _ _)
      | (with_reducible exact LeO.refl _)
      | (with_reducible exact LeO.none _)
      | (with_reducible refine LeO.ite ?_ ?_)
      | (with_reducible refine LeO.bind ?_ (fun _ => ?_))
      | exact ih0 _ _ _ _ _
      | exact LeO.none _
      | refine LeO.ite ?_ ?_
      | refine LeO.bind ?_ (fun _ => ?_)
def clean_made.T5 : Bool × List (List Nat × List Nat) := (true, [([], []), ([0], [0]), ([], []), ([2], [2]), ([3], [3]), ([1, 4, 3], [1, 4]), ([0, 1, 2, 3, 4, 5], []), ([6, 5, 5, 0, 1, 2, 3, 4, 5], [5, 6])])
def clean_made.B5 : List Nat := [0, 1, 0, 4, 12, 31, 63, 127]
theorem clean_made.tab5 : rtab .any (opsOf Try.f23 5) = clean_made.T5 := by kernel_rfl
theorem clean_made.bits5 : waitsOk clean_made.T5.2 clean_made.B5 = true := by kernel_rfl
set_option maxHeartbeats 8000000 in
set_option maxRecDepth 100000 in
theorem clean_made.calls (k : Nat) (a0_0 : Int) (A0_1 : Option Addr) (c0_1 : Nat) (l0_1 : List (List Int)) (A1 : Option Addr) (c1 : Nat) (l1 : List (List Int)) (r1 : Int) (r2 : List (List Int)) (w : World) (hr0_1 : Kd.C (Kd.slice 3 (Kd.int .i64)) w A0_1 l0_1.length l0_1) (hc0_1 : l0_1.length ≤ c0_1) (hr1 : Kd.C (Kd.slice 3 (Kd.int .i64)) w A1 l1.length l1) (hc1 : l1.length ≤ c1) (h : clean_made.f k a0_0 l0_1 l1 = some (r1, r2)) :
    Calls Try.prog 23 #[.agg #[.int .i64 a0_0, .slice A0_1 l0_1.length c0_1], .slice A1 l1.length c1] w fun e w' => ∃ v1_ : Value, e = .returned (.agg #[.int .i64 r1, v1_]) ∧ Kd.S (Kd.slice 3 (Kd.int .i64)) 43 w' w.heap.size (fun _ => True) v1_ r2 ∧ Below w.heap.size w w' := by
  have hu24 := Try.underlying24
  have HR0_1 := Aside0.mk hr0_1
  have HC0_1 := Aside0.mk hc0_1
  clear hr0_1 hc0_1
  have HR1 := Aside0.mk hr1
  have HC1 := Aside0.mk hc1
  clear hr1 hc1
  have HB := Aside0.mk (Below.refl w.heap.size w)
  have H : (clean_made.l0 k l1 (l1.length : Int) 0 a0_0 ([] : List (List Int))) = some (r1, r2) := h
  clear h
  have H' := Aside0.mk H
  clear H
  go_enter Try.func23, Try.ntmps23
  go_wp2_with (first | ((with_reducible refine gate_dst (N := 2) rfl ?_); refine box_event ?hg (N := 2) ?hd (cs := #[.int .i64 a0_0, .slice A0_1 l0_1.length c0_1]) (t := 24) ?hr ?_; (case hd => rfl); (case hg => rfl); (case hr => first | (go_simp; done) | (go_simp; rfl)); intro gb111 hg w3 hbox hb; have n0_ := Aside0.mk (below_step (by repeat (first | (with_reducible first | exact HB.out | apply below_alloc | apply pw_below_drewN | apply below_drew1) | exact HB.out)) hb); have n1_ := Aside0.mk (hbox); have n2_ := Aside0.mk ((by rw [hg]; exact (below_size (by repeat (first | (with_reducible first | exact HB.out | apply below_alloc | apply pw_below_drewN | apply below_drew1) | exact HB.out))) : w.heap.size ≤ gb111)); have n3_ := Aside0.mk ((by rw [hg]; exact (below_size (by repeat (first | (with_reducible first | exact HB.out | apply below_alloc | apply pw_below_drewN | apply below_drew1) | exact HB.out))) : w.heap.size ≤ gb111)); clear HB; have HB := n0_; have BK111 := n1_; have GW111 := n2_; have GE111 := n3_; clear n0_ n1_ n2_ n3_; clear hb hbox hg) | ((with_reducible refine gate_dst (N := 4) rfl ?_); refine box_event ?hg (N := 4) ?hd (cs := #[.int .i64 0, .slice none 0 0]) (t := 24) ?hr ?_; (case hd => rfl); (case hg => rfl); (case hr => first | (go_simp; done) | (go_simp; rfl)); intro gb112 hg w4 hbox hb; have n0_ := Aside0.mk (blk_below (g := gb111) (o := .cells #[.int .i64 a0_0, .slice A0_1 l0_1.length c0_1] 24 (0, 0)) (by (with_reducible repeat (first | refine blk_drewN ?_ _ | refine blk_drew ?_ | refine blk_alloc ?_ _)); exact BK111.out) hb); have n1_ := Aside0.mk (below_step (by repeat (first | (with_reducible first | exact HB.out | apply below_alloc | apply pw_below_drewN | apply below_drew1 | refine below_set ?_ GE111.out) | exact HB.out)) hb); have n2_ := Aside0.mk (hbox); have n3_ := Aside0.mk ((by rw [hg]; exact (below_size (by repeat (first | (with_reducible first | exact HB.out | apply below_alloc | apply pw_below_drewN | apply below_drew1 | refine below_set ?_ GE111.out) | exact HB.out))) : w.heap.size ≤ gb112)); have n4_ := Aside0.mk ((by rw [hg]; exact (below_size (by repeat (first | (with_reducible first | exact HB.out | apply below_alloc | apply pw_below_drewN | apply below_drew1 | refine below_set ?_ GE111.out) | exact HB.out))) : w.heap.size ≤ gb112)); have n5_ := Aside0.mk ((by rw [hg]; exact Nat.ne_of_lt (blk_lt (g := gb111) (o := .cells #[.int .i64 a0_0, .slice A0_1 l0_1.length c0_1] 24 (0, 0)) (by (with_reducible repeat (first | refine blk_drewN ?_ _ | refine blk_drew ?_ | refine blk_alloc ?_ _)); exact BK111.out)) : gb111 ≠ gb112)); have n6_ := Aside0.mk ((by rw [hg]; exact Nat.ne_of_gt (blk_lt (g := gb111) (o := .cells #[.int .i64 a0_0, .slice A0_1 l0_1.length c0_1] 24 (0, 0)) (by (with_reducible repeat (first | refine blk_drewN ?_ _ | refine blk_drew ?_ | refine blk_alloc ?_ _)); exact BK111.out)) : gb112 ≠ gb111)); clear BK111; clear HB; have BK111 := n0_; have HB := n1_; have BK112 := n2_; have GW112 := n3_; have GE112 := n4_; have NB111_112 := n5_; have NB112_111 := n6_; clear n0_ n1_ n2_ n3_ n4_ n5_ n6_; clear hb hbox hg; have hnb5 := NB111_112.out; have hnc5 := NB112_111.out; have hcz6_0 : w4.cell? ⟨gb111, 0, none⟩ = some (.int .i64 a0_0) := (blk_cell BK111.out 0).trans rfl; have hcz6_1 : w4.cell? ⟨gb111, 1, none⟩ = some (.slice A0_1 l0_1.length c0_1) := (blk_cell BK111.out 1).trans rfl; have hfz6_0 := blk_frozen BK111.out 0; have hfz6_1 := blk_frozen BK111.out 1) | ((with_reducible refine gate_dst (N := 5) rfl ?_); refine box_event ?hg (N := 5) ?hd (cs := #[.int .i64 0, .slice none 0 0]) (t := 24) ?hr ?_; (case hd => rfl); (case hg => rfl); (case hr => first | (go_simp; done) | (go_simp; rfl)); intro gb113 hg w7 hbox hb; have n0_ := Aside0.mk (blk_below (g := gb111) (o := .cells #[.int .i64 a0_0, .slice A0_1 l0_1.length c0_1] 24 (0, 0)) (by (with_reducible repeat (first | refine blk_drewN ?_ _ | refine blk_drew ?_ | refine blk_alloc ?_ _)); exact BK111.out) hb); have n1_ := Aside0.mk (blk_below (g := gb112) (o := .cells #[.int .i64 0, .slice none 0 0] 24 (0, 0)) (by (with_reducible repeat (first | refine blk_drewN ?_ _ | refine blk_drew ?_ | refine blk_alloc ?_ _)); exact BK112.out) hb); have n2_ := Aside0.mk (below_step (by repeat (first | (with_reducible first | exact HB.out | apply below_alloc | apply pw_below_drewN | apply below_drew1 | refine below_set ?_ GE111.out | refine below_set ?_ GE112.out) | exact HB.out)) hb); have n3_ := Aside0.mk (hbox); have n4_ := Aside0.mk ((by rw [hg]; exact (below_size (by repeat (first | (with_reducible first | exact HB.out | apply below_alloc | apply pw_below_drewN | apply below_drew1 | refine below_set ?_ GE111.out | refine below_set ?_ GE112.out) | exact HB.out))) : w.heap.size ≤ gb113)); have n5_ := Aside0.mk ((by rw [hg]; exact (below_size (by repeat (first | (with_reducible first | exact HB.out | apply below_alloc | apply pw_below_drewN | apply below_drew1 | refine below_set ?_ GE111.out | refine below_set ?_ GE112.out) | exact HB.out))) : w.heap.size ≤ gb113)); have n6_ := Aside0.mk ((by rw [hg]; exact Nat.ne_of_lt (blk_lt (g := gb111) (o := .cells #[.int .i64 a0_0, .slice A0_1 l0_1.length c0_1] 24 (0, 0)) (by (with_reducible repeat (first | refine blk_drewN ?_ _ | refine blk_drew ?_ | refine blk_alloc ?_ _)); exact BK111.out)) : gb111 ≠ gb113)); have n7_ := Aside0.mk ((by rw [hg]; exact Nat.ne_of_gt (blk_lt (g := gb111) (o := .cells #[.int .i64 a0_0, .slice A0_1 l0_1.length c0_1] 24 (0, 0)) (by (with_reducible repeat (first | refine blk_drewN ?_ _ | refine blk_drew ?_ | refine blk_alloc ?_ _)); exact BK111.out)) : gb113 ≠ gb111)); have n8_ := Aside0.mk ((by rw [hg]; exact Nat.ne_of_lt (blk_lt (g := gb112) (o := .cells #[.int .i64 0, .slice none 0 0] 24 (0, 0)) (by (with_reducible repeat (first | refine blk_drewN ?_ _ | refine blk_drew ?_ | refine blk_alloc ?_ _)); exact BK112.out)) : gb112 ≠ gb113)); have n9_ := Aside0.mk ((by rw [hg]; exact Nat.ne_of_gt (blk_lt (g := gb112) (o := .cells #[.int .i64 0, .slice none 0 0] 24 (0, 0)) (by (with_reducible repeat (first | refine blk_drewN ?_ _ | refine blk_drew ?_ | refine blk_alloc ?_ _)); exact BK112.out)) : gb113 ≠ gb112)); clear BK111; clear BK112; clear HB; have BK111 := n0_; have BK112 := n1_; have HB := n2_; have BK113 := n3_; have GW113 := n4_; have GE113 := n5_; have NB111_113 := n6_; have NB113_111 := n7_; have NB112_113 := n8_; have NB113_112 := n9_; clear n0_ n1_ n2_ n3_ n4_ n5_ n6_ n7_ n8_ n9_; clear hb hbox hg; have hnb8 := NB113_111.out; have hnc8 := NB111_113.out; have hnb9 := NB113_112.out; have hnc9 := NB112_113.out; have hcz10_0 : w7.cell? ⟨gb113, 0, none⟩ = some (.int .i64 0) := (blk_cell BK113.out 0).trans rfl; have hcz10_1 : w7.cell? ⟨gb113, 1, none⟩ = some (.slice none 0 0) := (blk_cell BK113.out 1).trans rfl; have hfz10_0 := blk_frozen BK113.out 0; have hfz10_1 := blk_frozen BK113.out 1))
  go_loopg [13] k (fun kq v13 w' => ∃ (x13_1 : Int) (x114001_1 : List (List Int)) (u114001 : Value), v13 = .int .i64 x13_1 ∧ Aside0 (clean_made.l0 kq l1 (l1.length : Int) x13_1 a0_0 x114001_1 = some (r1, r2)) ∧ Aside0 (kq ≤ k) ∧ Aside0 (Kd.S (Kd.slice 3 (Kd.int .i64)) 43 w' w.heap.size (fun _ => True) u114001 x114001_1) ∧ Aside0 (w'.heap[gb111]? = some (.cells #[.int .i64 a0_0, (.slice A0_1 l0_1.length c0_1)] 24 (0, 0))) ∧ Aside0 (w'.heap[gb112]? = some (.cells #[.int .i64 0, (.slice none 0 0)] 24 (0, 0))) ∧ Aside0 (w'.heap[gb113]? = some (.cells #[.int .i64 a0_0, u114001] 24 (0, 0))) ∧ Aside0 (Below w.heap.size w w'))
  case atStart => exact ⟨(0), (([] : List (List Int))), (.slice none 0 0), (by first | rfl | (simp; done) | (simp [*]; done)), H', ⟨Nat.le_refl _⟩, ⟨by first | exact Kd.S_nil _ _ _ _ _ | exact Kd.N_nil _ _ _ _ _ | exact Kd.V_nil _ _ _ _ _ | exact Kd.Q_nil _ _ _ _ _ | exact Kd.R_nil _ _ _ _ _⟩, ⟨by (with_reducible repeat (first | refine blk_drewN ?_ _ | refine blk_drew ?_ | refine blk_alloc ?_ _)); refine blk_far ?_ NB111_113.out _; (with_reducible repeat (first | refine blk_drewN ?_ _ | refine blk_drew ?_ | refine blk_alloc ?_ _)); refine blk_far ?_ NB111_113.out _; (with_reducible repeat (first | refine blk_drewN ?_ _ | refine blk_drew ?_ | refine blk_alloc ?_ _)); exact BK111.out⟩, ⟨by (with_reducible repeat (first | refine blk_drewN ?_ _ | refine blk_drew ?_ | refine blk_alloc ?_ _)); refine blk_far ?_ NB112_113.out _; (with_reducible repeat (first | refine blk_drewN ?_ _ | refine blk_drew ?_ | refine blk_alloc ?_ _)); refine blk_far ?_ NB112_113.out _; (with_reducible repeat (first | refine blk_drewN ?_ _ | refine blk_drew ?_ | refine blk_alloc ?_ _)); exact BK112.out⟩, ⟨by (with_reducible repeat (first | refine blk_drewN ?_ _ | refine blk_drew ?_ | refine blk_alloc ?_ _)); refine blk_put (cs := #[.int .i64 a0_0, .slice none 0 0]) ?_ 1 _ rfl; (with_reducible repeat (first | refine blk_drewN ?_ _ | refine blk_drew ?_ | refine blk_alloc ?_ _)); refine blk_put (cs := #[.int .i64 0, .slice none 0 0]) ?_ 0 _ rfl; (with_reducible repeat (first | refine blk_drewN ?_ _ | refine blk_drew ?_ | refine blk_alloc ?_ _)); exact BK113.out⟩, ⟨by repeat (first | (with_reducible first | exact HB.out | apply below_alloc | apply pw_below_drewN | apply below_drew1 | refine below_set ?_ GE111.out | refine below_set ?_ GE112.out | refine below_set ?_ GE113.out) | exact HB.out)⟩⟩
  case round =>
    clear H'
    try clear c1
    try clear c2
    try clear p2
    try clear c5
    try clear c8
    try clear c9
    try clear hcz10_0
    try clear hcz10_1
    try clear hcz6_0
    try clear hcz6_1
    try clear hfz10_0
    try clear hfz10_1
    try clear hfz6_0
    try clear hfz6_1
    obtain ⟨x13_1, x114001_1, u114001, rfl, HA, HK1, HO_114001, BK111, BK112, BK113, HB⟩ := hrel
    cases gk with
    | zero => exact absurd HA.out (by simp [clean_made.l0])
    | succ k1 =>
      have H := HA.out
      clear HA
      simp only [clean_made.l0] at H
      by_cases c11 : x13_1 < (l1.length : Int)
      · rw [if_pos c11] at H
        have c11b0 : decide (x13_1 < (l1.length : Int)) = true := decide_eq_true c11
        clear c11
        by_cases c12 : 0 ≤ x13_1
        · rw [if_pos c12] at H
          have c12b0 : decide (0 ≤ x13_1) = true := decide_eq_true c12
          clear c12
          by_cases c13 : x13_1 < (l1.length : Int)
          · rw [if_pos c13] at H
            have c13b0 : decide (x13_1 < (l1.length : Int)) = true := decide_eq_true c13
            clear c13
            replace H := Option.bind_eq_some_iff.mp H
            obtain ⟨t115, A140, H⟩ := H
            replace H : (if x114001_1.length < 5864062014805 then (clean_made.l0 k1 l1 (l1.length : Int) (wrap64 (x13_1 + 1)) a0_0 (x114001_1 ++ [t115])) else (none)) = some (r1, r2) := H
            have A14 := Aside0.mk A140
            clear A140
            by_cases c15 : x114001_1.length < 5864062014805
            · rw [if_pos c15] at H
              have LMc15 := Aside0.mk c15
              clear c15
              obtain ⟨y118, hy118⟩ : ∃ y_ : List (List Int), y_ = (x114001_1 ++ [t115]) := ⟨_, rfl⟩
              replace H : (clean_made.l0 k1 l1 (l1.length : Int) (wrap64 (x13_1 + 1)) a0_0 y118) = some (r1, r2) := by first | (rw [hy118]; with_reducible exact H) | (have H2_ := (Option.bind_some _ _).symm.trans H; rw [hy118]; with_reducible exact H2_) | (have H2_ := (Option.bind_some _ _).symm.trans H; with_reducible exact H2_) | with_reducible exact H | (rw [hy118]; exact H) | exact H
              have Ny118 := Aside0.mk hy118
              clear hy118
              have H' := Aside0.mk H
              clear H
              have p114 : 0 ≤ (x13_1 : Int) := of_decide_eq_true (by first | (with_reducible assumption) | assumption)
              have q114 : x13_1 < (l1.length : Int) := of_decide_eq_true (by first | (with_reducible assumption) | assumption)
              obtain ⟨ad114, A114_0, c114_0, e114, hx114_0, hl114_0, hi114_0⟩ := at_L1 HR1.out x13_1 p114 q114
              cases e114
              replace hx114_0 := (HB.out.cell (World.block_lt_of_cell? w _ hx114_0)).trans hx114_0
              have HR114_0 := Aside0.mk hi114_0
              have HC114_0 := Aside0.mk hl114_0
              clear hi114_0 hl114_0
              replace p114 := eq_true p114
              replace q114 := eq_true q114
              try go_wp2
              have n0_ := Aside0.mk (Kd.S_drew HO_114001.out)
              have n1_ := Aside0.mk (blk_drew BK111.out)
              have n2_ := Aside0.mk (blk_drew BK112.out)
              have n3_ := Aside0.mk (blk_drew BK113.out)
              have n4_ := Aside0.mk (below_drew1 HB.out)
              clear HO_114001
              clear BK111
              clear BK112
              clear BK113
              clear HB
              have HO_114001 := n0_
              have BK111 := n1_
              have BK112 := n2_
              have BK113 := n3_
              have HB := n4_
              clear n0_ n1_ n2_ n3_ n4_
              refine start_ (n := 8) (S := fun w' => w'.cell? ⟨gb113, 0, none⟩ = some (.int .i64 a0_0) ∧ w'.cell? ⟨gb113, 1, none⟩ = some (u114001)) (ds := [7]) #[false, false, false, false, false, false, false, false] (by kernel_rfl) rfl rfl ⟨(blk_cell BK113.out 0).trans rfl, (blk_cell BK113.out 1).trans rfl⟩ (fun hHeld => ?_); refine with_tabW clean_made.tab5 clean_made.bits5 (fun HT_ HW_ => ?_)
              generalize wr.drew = w16 at HO_114001 BK111 BK112 BK113 HB hHeld ⊢
              refine pure_ (i := 0) (N := some 17) (v := ?_) (a' := ?_) #[true, false, false, false, false, false, false, false] rfl rfl (any_of HT_.out (by kernel_rfl)) (fun _ _ _ h => h) (Or.inl ⟨by rfl, ?_⟩) ?_ ?_
              rotate_left
              · intro w'
                go_simp
                with_reducible rfl
              rotate_left
              · simp only [Act.put, List.setIfInBounds_toArray, List.set_cons_zero, List.set_cons_succ, i64_w, i32_w]
                rfl
              refine pure_ (i := 2) (N := some 19) (v := ?_) (a' := ?_) #[true, false, true, false, false, false, false, false] rfl rfl (any_of HT_.out (by kernel_rfl)) (fun _ _ _ h => h) (Or.inl ⟨by rfl, ?_⟩) ?_ ?_
              rotate_left
              · intro w'
                go_simp
                with_reducible rfl
              rotate_left
              · simp only [Act.put, List.setIfInBounds_toArray, List.set_cons_zero, List.set_cons_succ, i64_w, i32_w]
                rfl
              refine take_ (i := 1) (N := some 18) (v := ?_) (a' := ?_) #[true, true, true, false, false, false, false, false] rfl rfl (take_ofW HT_.out HW_.out (by kernel_rfl)) (fun _ _ _ h => h) (Or.inl ⟨by rfl, ?_⟩) hHeld ?_ ?_
              rotate_left
              · rintro w' ⟨s0, s1⟩
                go_simp
                with_reducible rfl
              rotate_left
              · simp only [Act.put, List.setIfInBounds_toArray, List.set_cons_zero, List.set_cons_succ, i64_w, i32_w]
                rfl
              refine one_ (i := 3) (N := some 20) #[true, true, true, true, false, false, false, false] rfl rfl (one_of HT_.out (by kernel_rfl)) (by decide) (fun K hK => ?_)
              refine goes_ Try.func41 (by kernel_rfl) rfl #[.slice A114_0 (rd_L1 l1 x13_1).length c114_0] (by rfl) rfl rfl (by (try simp only [List.map_toArray, List.map_cons, List.map_nil]); first | done | rfl | (simp only [List.length_drop, List.length_take]; rfl)) ?_
              with_reducible refine (api_Clause_int.calls _ _ (rd_L1 l1 x13_1) t115 _ ?side1 ?side2 A14.out).mono ?_
              (case side1 => repeat (first | exact (Kd.C_below HR114_0.out HB.out) | (with_reducible refine Kd.C_alloc ?_ _) | (with_reducible refine Kd.C_drewN ?_ _) | (with_reducible refine Kd.C_drew ?_)))
              (case side2 => exact HC114_0.out)
              rintro e w17 ⟨v116, rfl, ho0, hb⟩
              refine ⟨_, rfl, ?_⟩
              have n0_ := Aside0.mk (Kd.S_elder' (by (with_reducible repeat (first | apply Kd.S_alloc | apply Kd.S_drewN | apply Kd.S_drew)); exact HO_114001.out) (Kd.R_base ho0) hb)
              have n1_ := Aside0.mk (Kd.R_lower ho0 (below_size (by repeat (first | (with_reducible first | exact HB.out | apply below_alloc | apply pw_below_drewN | apply below_drew1 | refine below_set ?_ GE111.out | refine below_set ?_ GE112.out | refine below_set ?_ GE113.out) | exact HB.out))))
              have n2_ := Aside0.mk (blk_below (g := gb111) (o := .cells #[.int .i64 a0_0, .slice A0_1 l0_1.length c0_1] 24 (0, 0)) (by (with_reducible repeat (first | refine blk_drewN ?_ _ | refine blk_drew ?_ | refine blk_alloc ?_ _)); exact BK111.out) hb)
              have n3_ := Aside0.mk (blk_below (g := gb112) (o := .cells #[.int .i64 0, .slice none 0 0] 24 (0, 0)) (by (with_reducible repeat (first | refine blk_drewN ?_ _ | refine blk_drew ?_ | refine blk_alloc ?_ _)); exact BK112.out) hb)
              have n4_ := Aside0.mk (blk_below (g := gb113) (o := .cells #[.int .i64 a0_0, u114001] 24 (0, 0)) (by (with_reducible repeat (first | refine blk_drewN ?_ _ | refine blk_drew ?_ | refine blk_alloc ?_ _)); exact BK113.out) hb)
              have n5_ := Aside0.mk (below_step (by repeat (first | (with_reducible first | exact HB.out | apply below_alloc | apply pw_below_drewN | apply below_drew1 | refine below_set ?_ GE111.out | refine below_set ?_ GE112.out | refine below_set ?_ GE113.out) | exact HB.out)) hb)
              clear HO_114001
              clear BK111
              clear BK112
              clear BK113
              clear HB
              have HO_114001 := n0_
              have HO117 := n1_
              have BK111 := n2_
              have BK112 := n3_
              have BK113 := n4_
              have HB := n5_
              clear n0_ n1_ n2_ n3_ n4_ n5_
              (try clear hb)
              (try clear hb2)
              (try clear hk)
              (try clear hi)
              (try clear ho0)
              obtain ⟨Ao19, co19, eo19⟩ := Kd.R_slice HO117.out
              (first | subst eo19 | (injection eo19 with f1_ f2_ f3_; have f4_ := f1_.symm; have f5_ := f3_.symm; clear f1_ f2_ f3_; subst f4_; subst f5_))
              refine hK.out _ _ ⟨(blk_cell BK113.out 0).trans rfl, (blk_cell BK113.out 1).trans rfl⟩ (fun hHeld => ?_)
              clear hK K
              refine norm_ (a' := ?_) ?_ ?_
              rotate_left
              · show Act.put _ (some 20) _ = _
                simp only [Act.put, List.setIfInBounds_toArray, List.set_cons_zero, List.set_cons_succ, i64_w, i32_w]
                rfl
              refine one_ (i := 4) (N := some 21) #[true, true, true, true, true, false, false, false] rfl rfl (one_of HT_.out (by kernel_rfl)) (by decide) (fun K hK => ?_)
              refine value_ (w1 := ?_) (v := ?_) (by rfl) rfl ?_ ?_
              rotate_left 2
              · go_simp
                constructor
                · rfl
                · rfl
              refine hK.out _ _ ⟨(blk_cell (blk_alloc BK113.out _) 0).trans rfl, (blk_cell (blk_alloc BK113.out _) 1).trans rfl⟩ (fun hHeld => ?_)
              clear hK K
              refine norm_ (a' := ?_) ?_ ?_
              rotate_left
              · show Act.put _ (some 21) _ = _
                simp only [Act.put, List.setIfInBounds_toArray, List.set_cons_zero, List.set_cons_succ, i64_w, i32_w]
                rfl
              refine one_ (i := 5) (N := some 22) #[true, true, true, true, true, true, false, false] rfl rfl (one_of HT_.out (by kernel_rfl)) (by decide) (fun K hK => ?_)
              refine Kd.S_append_step (Kd.slice 3 (Kd.int .i64)) (w0 := w) w.heap.size (by rfl) (.tmp 18) (.tmp 21) 22 43 (.slice none 0 0) 24 rfl Try.underlying22 info43 rfl (by decide) (by omega) u114001 x114001_1 t115 [.slice Ao19 t115.length co19] (fun _ => True) (fun k_ => some k_ = (.slice Ao19 t115.length co19 : Value).ownBlock) rfl rfl ?aP (fun k_ hk_ => ((Kd.R_mono (ok' := fun k_ => ((fun _ => True)) k_ ∧ some k_ ≠ (u114001 : Value).ownBlock) (Kd.R_apart' (HO117.out) (Kd.S_typed HO_114001.out) (by decide)) (fun k_ hk => ⟨trivial, hk.2⟩))).1 k_ hk_.symm) ?aF ?aO ?aB ?aS ?aL ?_
              (case aP => exact Kd.M_row (Kd.R_mono (Kd.R_tight rfl (Kd.R_mono (ok' := fun k_ => ((fun _ => True)) k_ ∧ some k_ ≠ (u114001 : Value).ownBlock) (Kd.R_apart' (HO117.out) (Kd.S_typed HO_114001.out) (by decide)) (fun k_ hk => ⟨trivial, hk.2⟩))) (fun _ h_ => h_)))
              (case aB => exact (by repeat (first | (with_reducible first | exact HB.out | apply below_alloc | apply pw_below_drewN | apply below_drew1 | refine below_set ?_ GE111.out | refine below_set ?_ GE112.out | refine below_set ?_ GE113.out) | exact HB.out)))
              (case aF => exact (fun _ _ => trivial))
              (case aO => exact (by (with_reducible repeat (first | apply Kd.S_alloc | apply Kd.S_drewN | apply Kd.S_drew)); exact Kd.S_mono HO_114001.out (fun k_ hk => ⟨trivial, fun e_ => hk.2 e_⟩)))
              (case aS => exact (below_size (by repeat (first | (with_reducible first | exact HB.out | apply below_alloc | apply pw_below_drewN | apply below_drew1 | refine below_set ?_ GE111.out | refine below_set ?_ GE112.out | refine below_set ?_ GE113.out) | exact HB.out))))
              (case aL => have := LMc15.out; omega)
              intro v119 w18 ho hb hg hat
              rw [← Ny118.out] at ho
              have n0_ := Aside0.mk (blk_grown (g := gb111) (o := .cells #[.int .i64 a0_0, .slice A0_1 l0_1.length c0_1] 24 (0, 0)) (by (with_reducible repeat (first | refine blk_drewN ?_ _ | refine blk_drew ?_ | refine blk_alloc ?_ _)); exact BK111.out) hg (Kd.S_ne HO_114001.out BK111.out (by decide)))
              have n1_ := Aside0.mk (blk_grown (g := gb112) (o := .cells #[.int .i64 0, .slice none 0 0] 24 (0, 0)) (by (with_reducible repeat (first | refine blk_drewN ?_ _ | refine blk_drew ?_ | refine blk_alloc ?_ _)); exact BK112.out) hg (Kd.S_ne HO_114001.out BK112.out (by decide)))
              have n2_ := Aside0.mk (blk_grown (g := gb113) (o := .cells #[.int .i64 a0_0, u114001] 24 (0, 0)) (by (with_reducible repeat (first | refine blk_drewN ?_ _ | refine blk_drew ?_ | refine blk_alloc ?_ _)); exact BK113.out) hg (Kd.S_ne HO_114001.out BK113.out (by decide)))
              have n3_ := Aside0.mk (hb)
              have n4_ := Aside0.mk (ho)
              clear BK111
              clear BK112
              clear BK113
              clear HB
              clear HO_114001
              clear HO117
              have BK111 := n0_
              have BK112 := n1_
              have BK113 := n2_
              have HB := n3_
              have HO120 := n4_
              clear n0_ n1_ n2_ n3_ n4_
              clear ho hb hg hat
              obtain ⟨Ao20, co20, eo20⟩ := Kd.S_slice HO120.out
              (first | subst eo20 | (injection eo20 with f1_ f2_ f3_; have f4_ := f1_.symm; have f5_ := f3_.symm; clear f1_ f2_ f3_; subst f4_; subst f5_))
              refine hK.out _ _ ⟨(blk_cell BK113.out 0).trans rfl, (blk_cell BK113.out 1).trans rfl⟩ (fun hHeld => ?_)
              clear hK K
              refine norm_ (a' := ?_) ?_ ?_
              rotate_left
              · show Act.put _ (some 22) _ = _
                simp only [Act.put, List.setIfInBounds_toArray, List.set_cons_zero, List.set_cons_succ, i64_w, i32_w]
                rfl
              refine pure_ (i := 6) (N := some 23) (v := ?_) (a' := ?_) #[true, true, true, true, true, true, true, false] rfl rfl (any_of HT_.out (by kernel_rfl)) (fun _ _ _ h => h) (Or.inl ⟨by rfl, ?_⟩) ?_ ?_
              rotate_left
              · intro w'
                go_simp
                with_reducible rfl
              rotate_left
              · simp only [Act.put, List.setIfInBounds_toArray, List.set_cons_zero, List.set_cons_succ, i64_w, i32_w]
                rfl
              refine last_ (i := 7) (N := none) #[true, true, true, true, true, true, true, true] rfl rfl (one_of HT_.out (by kernel_rfl)) (by decide) (fun K hK => ?_)
              have hs21 : w18.cell? ⟨gb113, 1, none⟩ = some (u114001) := (blk_cell BK113.out 1).trans rfl
              have hfs21 := blk_frozen BK113.out 1
              have hns21_0 := NB111_113.out
              have hns21_1 := NB112_113.out
              have hms21_0 := NB113_111.out
              have hms21_1 := NB113_112.out
              refine skip_ (w1 := ?_) (by rfl) rfl ?_ ?_
              rotate_left
              · go_simp
                rfl
              refine hK.out _ _ ?_
              clear hK K
              refine done_ (done_of HT_.out (by kernel_rfl)) ?_
              try go_wp2
              go_roundg k1
              case measure => have := HK1.out; omega
              case rel => exact ⟨(wrap64 (x13_1 + 1)), (y118), (.slice Ao20 y118.length co20), (by first | rfl | (simp; done) | (simp [*]; done)), H', ⟨by have := HK1.out; omega⟩, ⟨by (with_reducible repeat (first | apply Kd.S_alloc | apply Kd.S_drewN | apply Kd.S_drew)); exact Kd.S_mono (Kd.S_far (p := ⟨gb113, 1, none⟩) (Kd.S_types HO120.out BK113.out (by decide)) (fun _ hk => hk.2) (.slice Ao20 y118.length co20)) (fun _ hk => trivial)⟩, ⟨by (with_reducible repeat (first | refine blk_drewN ?_ _ | refine blk_drew ?_ | refine blk_alloc ?_ _)); refine blk_far ?_ NB111_113.out _; (with_reducible repeat (first | refine blk_drewN ?_ _ | refine blk_drew ?_ | refine blk_alloc ?_ _)); exact BK111.out⟩, ⟨by (with_reducible repeat (first | refine blk_drewN ?_ _ | refine blk_drew ?_ | refine blk_alloc ?_ _)); refine blk_far ?_ NB112_113.out _; (with_reducible repeat (first | refine blk_drewN ?_ _ | refine blk_drew ?_ | refine blk_alloc ?_ _)); exact BK112.out⟩, ⟨by (with_reducible repeat (first | refine blk_drewN ?_ _ | refine blk_drew ?_ | refine blk_alloc ?_ _)); refine blk_put (cs := #[.int .i64 a0_0, u114001]) ?_ 1 _ rfl; (with_reducible repeat (first | refine blk_drewN ?_ _ | refine blk_drew ?_ | refine blk_alloc ?_ _)); exact BK113.out⟩, ⟨by repeat (first | (with_reducible first | exact HB.out | apply below_alloc | apply pw_below_drewN | apply below_drew1 | refine below_set ?_ GE111.out | refine below_set ?_ GE112.out | refine below_set ?_ GE113.out) | exact HB.out)⟩⟩
            · rw [if_neg c15] at H
              exact absurd H (by simp)
          · rw [if_neg c13] at H
            exact absurd H (by simp)
        · rw [if_neg c12] at H
          exact absurd H (by simp)
      · rw [if_neg c11] at H
        have c11b0 : decide (x13_1 < (l1.length : Int)) = false := decide_eq_false c11
        clear c11
        simp only [Option.some.injEq, Prod.mk.injEq] at H
        obtain ⟨rfl, rfl⟩ := H
        have hnb22 := NB113_111.out
        have hnc22 := NB111_113.out
        have hnb23 := NB113_112.out
        have hnc23 := NB112_113.out
        have hcz24_0 : wr.cell? ⟨gb113, 0, none⟩ = some (.int .i64 a0_0) := (blk_cell BK113.out 0).trans rfl
        have hcz24_1 : wr.cell? ⟨gb113, 1, none⟩ = some (u114001) := (blk_cell BK113.out 1).trans rfl
        have hfz24_0 := blk_frozen BK113.out 0
        have hfz24_1 := blk_frozen BK113.out 1
        have hnb25 := NB112_111.out
        have hnc25 := NB111_112.out
        have hcz26_0 : wr.cell? ⟨gb112, 0, none⟩ = some (.int .i64 0) := (blk_cell BK112.out 0).trans rfl
        have hcz26_1 : wr.cell? ⟨gb112, 1, none⟩ = some (.slice none 0 0) := (blk_cell BK112.out 1).trans rfl
        have hfz26_0 := blk_frozen BK112.out 0
        have hfz26_1 := blk_frozen BK112.out 1
        obtain ⟨Ao27, co27, eo27⟩ := Kd.S_slice HO_114001.out
        subst eo27
        go_wp2
        refine bodyPost_ret (results_cell_row rfl _ _ gb112 24 #[.int .i64 a0_0, .slice Ao27 x114001_1.length co27] (0, 0) _ rfl (by (with_reducible repeat (first | refine blk_drewN ?_ _ | refine blk_drew ?_ | refine blk_alloc ?_ _)); refine blk_put (cs := #[.int .i64 a0_0, .slice none 0 0]) ?_ 1 _ rfl; (with_reducible repeat (first | refine blk_drewN ?_ _ | refine blk_drew ?_ | refine blk_alloc ?_ _)); refine blk_put (cs := #[.int .i64 0, .slice none 0 0]) ?_ 0 _ rfl; (with_reducible repeat (first | refine blk_drewN ?_ _ | refine blk_drew ?_ | refine blk_alloc ?_ _)); exact BK112.out) Try.underlying24 rfl (by kernel_rfl)) rfl ?_
        exact ⟨_, by first | rfl | (simp [errW_none, errW_some] <;> rfl) | (simp [*, errW_none, errW_some] <;> rfl), by (with_reducible repeat (first | apply Kd.S_alloc | apply Kd.S_drewN | apply Kd.S_drew)); exact Kd.S_mono (Kd.S_far (p := ⟨gb112, 1, none⟩) (Kd.S_far (p := ⟨gb112, 0, none⟩) (Kd.S_types HO_114001.out BK112.out (by decide)) (fun _ hk => hk.2) (.int .i64 a0_0)) (fun _ hk => hk.2) (.slice Ao27 x114001_1.length co27)) (fun _ hk => trivial), by repeat (first | (with_reducible first | exact HB.out | apply below_alloc | apply pw_below_drewN | apply below_drew1 | refine below_set ?_ GE111.out | refine below_set ?_ GE112.out | refine below_set ?_ GE113.out) | exact HB.out)⟩

end Go.Proofs.Ythhmjfjkbmmcaaa.GCS
/- clean.made: by its printed contract. -/
namespace Go.Proofs.Ythhmjfjkbmmcaaa
open Go.RowKit Go.Proofs.YthhmjfjkbmmcaaaW.PrintWords Go.Proofs.YthhmjfjkbmmcaaaW.PrintLast Go.Proofs.YthhmjfjkbmmcaaaW.PrintMore
open GCS
set_option linter.unusedVariables false
set_option linter.unusedSimpArgs false

theorem made_loop (a : Int) (ls : List (List Int)) (hl : ls.length ≤ 4398046511104) (hs : ∀ l ∈ ls, l.length ≤ 1099511627776) : ∀ k i, i ≤ ls.length → ls.length < k + i → clean_made.l0 k ls (ls.length : Int) (i : Int) a (ls.take i) = some (a, ls) := by
  intro k
  induction k with
  | zero => intro i h1 h2; omega
  | succ k ih =>
    intro i h1 h2
    unfold clean_made.l0
    by_cases hlt : i < ls.length
    · have hrd : rd_L1 ls (i : Int) = ls[i] := by simp [rd_L1, List.getD_eq_getElem?_getD, List.getElem?_eq_getElem hlt]
      have hc : api_Clause_int.f ls[i] = some ls[i] := by unfold api_Clause_int.f; rw [if_pos (hs _ (List.getElem_mem hlt))]
      have hw : wrap64 ((i : Int) + 1) = ((i + 1 : Nat) : Int) := by unfold wrap64; omega
      have ht : ls.take i ++ [ls[i]] = ls.take (i + 1) := by rw [List.take_add_one, List.getElem?_eq_getElem hlt]; rfl
      rw [if_pos (by omega), if_pos (by omega), if_pos (by omega), hrd, hc]
      simp only [Option.bind_some]
      rw [if_pos (by rw [List.length_take]; omega), hw, ht]
      exact ih (i + 1) (by omega) (by omega)
    · obtain rfl : i = ls.length := by omega
      rw [if_neg (by omega), List.take_length]
theorem made_calls (a : Int) (A0 : Option Addr) (c0 : Nat) (l0 : List (List Int)) (A : Option Addr) (c : Nat) (ls : List (List Int)) (w : World) (h0 : Kd.C kClause w A0 l0.length l0) (hc0 : l0.length ≤ c0) (h : Kd.C kClause w A ls.length ls) (hc : ls.length ≤ c) (hl : ls.length ≤ 4398046511104) (hs : ∀ l ∈ ls, l.length ≤ 1099511627776) :
    Calls Try.prog 23 #[.agg #[.int .i64 a, .slice A0 l0.length c0], .slice A ls.length c] w fun e w' => ∃ v1_ : Value, e = .returned (.agg #[.int .i64 a, v1_]) ∧ Kd.S kClause 43 w' w.heap.size (fun _ => True) v1_ ls ∧ Below w.heap.size w w' :=
  clean_made.calls (ls.length + 1) a A0 c0 l0 A c ls a ls w h0 hc0 h hc (by
    unfold clean_made.f
    exact made_loop a ls hl hs (ls.length + 1) 0 (Nat.zero_le _) (by omega))

end Go.Proofs.Ythhmjfjkbmmcaaa
/- clean.needs, clean.kind. -/
namespace Go.Proofs.Ythhmjfjkbmmcaaa
open Go.RowKit Go.Proofs.YthhmjfjkbmmcaaaW.PrintWords Go.Proofs.YthhmjfjkbmmcaaaW.PrintLast Go.Proofs.YthhmjfjkbmmcaaaW.PrintMore
attribute [local go_sem] max2_int min2_int max_two min_two max_three min_three max_four min_four
set_option linter.unusedVariables false
set_option linter.unusedSimpArgs false

/-- Is a literal of another variable true. -/
def trueAt (g : Int) (m : List Bool) (x : Int) : Bool := (vr x != g) && (rdOf false m (vr x - 1) == decide (x > 0))
set_option maxHeartbeats 1000000 in
theorem clo62_calls (b bm : Nat) (g x : Int) (vs : Value) (M : Option Addr) (cm : Nat) (m : List Bool) (w : World) (h0 : w.cell? ⟨b, 0, none⟩ = some (.int .i64 g)) (hm : w.cell? ⟨bm, 0, none⟩ = some (.slice M m.length cm)) (hr : Kd.C Kd.bool w M m.length m) (hx0 : x ≠ 0) (hx1 : -262144 ≤ x) (hx2 : x ≤ 262144) (hlen : vr x ≤ m.length) :
    Calls Try.prog 62 #[.int .i64 x, .pointer (some ⟨b, 0, none⟩), .pointer (some ⟨bm, 0, none⟩)] w fun e w' => e = .returned (.bool (trueAt g m x)) ∧ w = w' := by
  have HT := Aside0.mk (trueAt.eq_1 g m x)
  obtain ⟨q, hq⟩ : ∃ q, q = vr x := ⟨_, rfl⟩
  have hq1 : 1 ≤ q ∧ q ≤ 262144 := by rw [hq]; unfold vr; split <;> omega
  obtain ⟨ad, e, hc⟩ := Kd.at_bool hr (q - 1) (by omega) (by omega)
  cases e
  rw [show (q - 1).toNat = q.toNat - 1 by omega] at hc
  rw [← hq] at HT hlen
  have hmx : (if x < -x then -x else x) = q := by rw [hq]; rfl
  obtain ⟨y, hy⟩ : ∃ y, y = rdOf false m (q - 1) := ⟨_, rfl⟩
  rw [← hy] at hc HT
  obtain ⟨n, hn⟩ : ∃ n, n = m.length := ⟨_, rfl⟩
  rw [← hn] at hm hlen
  have HQ := Aside0.mk hq
  clear hr hy hn hq
  rw [HT.out]
  by_cases hqg : q = g
  · have hb1 : (q != g) = false := by simp [hqg]
    go_enter Try.func62, Try.ntmps62
    go_wp2
    go_ret
    exact ⟨by rw [hb1]; rfl, rfl⟩
  · have hb1 : (q != g) = true := by simpa using hqg
    go_enter Try.func62, Try.ntmps62
    go_wp2
    go_ret
    exact ⟨by rw [hb1]; rfl, rfl⟩

/-- What is asked of a literal of a clause of what went: it is one of the model's. -/
def InM (m : List Bool) (x : Int) : Prop := x ≠ 0 ∧ -262144 ≤ x ∧ x ≤ 262144 ∧ vr x ≤ m.length
def needc (g : Int) (m : List Bool) (c : List Int) : Bool := has c g && !c.any (trueAt g m)
def needsv (g : Int) (m : List Bool) (gl : List (List Int)) : Bool := gl.any (needc g m)

set_option maxHeartbeats 1000000 in
theorem clo61_calls (b bm : Nat) (g : Int) (A M : Option Addr) (ca cm : Nat) (c : List Int) (m : List Bool) (w : World) (h0 : w.cell? ⟨b, 0, none⟩ = some (.int .i64 g)) (hm : w.cell? ⟨bm, 0, none⟩ = some (.slice M m.length cm)) (hr : Kd.C Kd.bool w M m.length m) (hc : Kd.C (Kd.int .i64) w A c.length c) (hin : ∀ x ∈ c, InM m x) :
    Calls Try.prog 61 #[.slice A c.length ca, .pointer (some ⟨b, 0, none⟩), .pointer (some ⟨bm, 0, none⟩)] w fun e w' => e = .returned (.bool (needc g m c)) ∧ Below w.heap.size w w' := by
  have e62 : ∀ args w, (callFunc 62 args).run Try.prog w = .ok (.enter 62 args) w := enters_of Try.func62 (by kernel_rfl) rfl
  have hN := needc.eq_1 g m c
  have HH := has_calls A ca c g w hc
  have HP : PredRow Try.prog 62 #[.pointer (some ⟨b, 0, none⟩), .pointer (some ⟨bm, 0, none⟩)] (nums .i64 c) (fun j => trueAt g m (rd c (j : Int))) w := by
    intro j u hu W hW
    have hj : j < c.length := by have := (List.getElem?_eq_some_iff.1 hu).1; rwa [nums_length] at this
    have hrd : rd c (j : Int) = c[j] := by simp [rd, List.getD_eq_getElem?_getD, List.getElem?_eq_getElem hj]
    have : u = .int .i64 (rd c (j : Int)) := by
      simp [nums, List.getElem?_eq_getElem hj] at hu
      rw [← hu, hrd]
    subst this
    have hi := hin _ (List.getElem_mem hj)
    rw [← hrd] at hi
    refine (clo62_calls b bm g _ (.bool true) M cm m W (pw_cell_below hW h0) (pw_cell_below hW hm) (Kd.C_below hr hW) hi.1 hi.2.1 hi.2.2.1 hi.2.2.2).mono ?_
    rintro e w' ⟨rfl, rfl⟩
    exact ⟨rfl, Below.refl _ _⟩
  have HC := contains_38 _ _ e62 A c.length ca (nums .i64 c) _ w (nums_length _ _) (row1_ints hc) HP
  rw [firstIdx_any] at HC
  obtain ⟨n, hn⟩ : ∃ n, n = c.length := ⟨_, rfl⟩
  rw [← hn] at HH HC ⊢
  rcases hA : has c g with _ | _
  · rw [hA] at hN HH
    have H1 := Aside0.mk HH
    have HN := Aside0.mk hN
    clear HH HC HP hN hA hn hin hc hr e62
    rw [HN.out]
    go_enter Try.func61, Try.ntmps61
    go_wp2_with (go_at_call 40; refine H1.out.mono ?_; rintro e w4 ⟨rfl, rfl⟩)
    go_ret
    exact ⟨rfl, Below.refl _ _⟩
  · rw [hA] at hN HH
    rcases hX : c.any (trueAt g m) with _ | _
    all_goals rw [hX] at hN HC
    all_goals have H1 := Aside0.mk HH
    all_goals have HCF := Aside0.mk HC
    all_goals have HN := Aside0.mk hN
    all_goals clear HH HC HP hN hA hn hin hc hr e62 hX
    all_goals rw [HN.out]
    all_goals go_enter Try.func61, Try.ntmps61
    all_goals go_wp2_with (first | (go_at_call 40; refine H1.out.mono ?_; rintro e w4 ⟨rfl, rfl⟩) | (go_at_call 38; refine HCF.out.mono ?_; rintro e w5 ⟨rfl, hb5⟩; have HB5 := Aside0.mk hb5; clear hb5))
    all_goals go_ret
    all_goals exact ⟨rfl, HB5.out⟩

set_option maxHeartbeats 1000000 in
theorem needs_calls (g : Int) (G M : Option Addr) (cg cm : Nat) (gl : List (List Int)) (m : List Bool) (w : World) (hr : Kd.C Kd.bool w M m.length m) (hc : Kd.C kClause w G gl.length gl) (hin : ∀ c ∈ gl, ∀ x ∈ c, InM m x) :
    Calls Try.prog 36 #[.agg #[.int .i64 g, .slice G gl.length cg], .slice M m.length cm] w fun e w' => e = .returned (.bool (needsv g m gl)) ∧ Below w.heap.size w w' := by
  have e61 : ∀ args w, (callFunc 61 args).run Try.prog w = .ok (.enter 61 args) w := enters_of Try.func61 (by kernel_rfl) rfl
  have HCF : Aside0 (∀ (W : World) (b bm : Nat), Below w.heap.size w W → W.cell? ⟨b, 0, none⟩ = some (.int .i64 g) → W.cell? ⟨bm, 0, none⟩ = some (.slice M m.length cm) → Calls Try.prog 51 #[.slice G gl.length cg, .func (.func 61) #[] #[.pointer (some ⟨b, 0, none⟩), .pointer (some ⟨bm, 0, none⟩)]] W fun e w' => e = .returned (.bool (needsv g m gl)) ∧ Below W.heap.size W w') := ⟨fun W b bm hW h0 hm =>
    contains_51 61 #[.pointer (some ⟨b, 0, none⟩), .pointer (some ⟨bm, 0, none⟩)] e61 G cg gl (needc g m) W (Kd.C_below hc hW) (fun c hcl W' A' c' hW' _ hC' => clo61_calls b bm g A' M c' cm c m W' (pw_cell_below hW' h0) (pw_cell_below hW' hm) (Kd.C_below (Kd.C_below hr hW) hW') hC' (hin c hcl))⟩
  obtain ⟨n, hn⟩ : ∃ n, n = gl.length := ⟨_, rfl⟩
  obtain ⟨q, hq⟩ : ∃ q, q = m.length := ⟨_, rfl⟩
  rw [← hn, ← hq] at HCF
  rw [← hn, ← hq]
  have HB2 := Aside0.mk (show Below w.heap.size w ((w.alloc (.cells #[.int .i64 g, .slice G n cg] 29)).alloc (.cells #[.slice M q cm] 44)) from below_alloc (below_alloc (Below.refl _ _) _) _)
  have H1 := Aside0.mk (HCF.out _ w.heap.size (w.heap.size + 1) HB2.out (by rw [World.cell?_alloc_lt _ _ _ (by simp), cell_new]; rfl) (by
    have := cell_new (w.alloc (.cells #[.int .i64 g, .slice G n cg] 29)) #[.slice M q cm] 44 0
    rw [show (w.alloc (.cells #[.int .i64 g, .slice G n cg] 29)).heap.size = w.heap.size + 1 by simp] at this
    exact this))
  clear hr hc hin e61 HCF hn hq
  go_enter Try.func36, Try.ntmps36
  go_wp2_with (go_at_call 51; refine H1.out.mono ?_; rintro e w5 ⟨rfl, hb5⟩; have HB5 := Aside0.mk (below_then HB2.out HB2.out.size hb5); clear hb5)
  go_ret
  exact ⟨rfl, HB5.out⟩

end Go.Proofs.Ythhmjfjkbmmcaaa
/- clean.right. -/
namespace Go.Proofs.Ythhmjfjkbmmcaaa
open Go.RowKit Go.Proofs.YthhmjfjkbmmcaaaW.PrintWords Go.Proofs.YthhmjfjkbmmcaaaW.PrintLast Go.Proofs.YthhmjfjkbmmcaaaW.PrintMore
set_option linter.unusedVariables false
set_option linter.unusedSimpArgs false

theorem clo60_calls (b : Nat) (v x : Int) (w : World) (hc : w.cell? ⟨b, 0, none⟩ = some (.int .i64 v)) (hv0 : 0 ≤ v) (hv1 : v ≤ 262144) :
    Calls Try.prog 60 #[.int .i64 x, (.pointer (some ⟨b, 0, none⟩))] w fun e w' => e = .returned (.bool (badLit v x)) ∧ w = w' := by
  have hd0 : (x == 0) = decide (x = 0) := by rw [Bool.eq_iff_iff]; simp
  have HQ := Aside0.mk (show badLit v x = (decide (x = 0) || decide (x < -v) || decide (x > v)) by unfold badLit; rw [hd0])
  go_enter Try.func60, Try.ntmps60
  go_wp2
  all_goals go_ret
  all_goals exact ⟨by rw [HQ.out]; simp_all, rfl⟩

/-- May what went be, so far as this clause goes. -/
def rightc (v g : Int) (c : List Int) : Bool := (has c g || has c (-g)) && !c.any (badLit v)
def rightFrom (v g : Int) (l : List (List Int)) : Bool := l.all (rightc v g)

set_option maxRecDepth 100000 in
set_option maxHeartbeats 4000000 in
theorem right_calls (v g : Int) (Fv : Value) (G : Option Addr) (cg : Nat) (gl : List (List Int)) (w : World) (hr : Kd.C kClause w G gl.length gl) (hv1 : v ≤ 262144) (hg0 : 1 ≤ g) (hg1 : g ≤ v) (hmax : gl.length ≤ 1099511627776) (hF : Fv.cells.size = 1) (hF1 : Fv.oneCell' = true) (hls : ∀ l ∈ gl, l.length ≤ 1099511627776) :
    Calls Try.prog 33 #[.agg #[.int .i64 v, Fv], .agg #[.int .i64 g, .slice G gl.length cg]] w fun e w' => e = .returned (.bool (rightFrom v g gl)) ∧ Below w.heap.size w w' := by
  have HR := Aside0.mk hr
  obtain ⟨n, hn⟩ : ∃ n, n = gl.length := ⟨_, rfl⟩
  have HN := Aside0.mk hn
  rw [← hn] at hmax HR ⊢
  have e60 : ∀ args w, (callFunc 60 args).run Try.prog w = .ok (.enter 60 args) w := enters_of Try.func60 (by kernel_rfl) rfl
  have HE60 := Aside0.mk e60
  obtain ⟨R, hR⟩ : ∃ R, R = rightFrom v g gl := ⟨_, rfl⟩
  rw [← hR]
  have H0 := Aside0.mk (show R = rightFrom v g (gl.drop 0) from hR)
  clear hr hn e60 hR
  go_enter Try.func33, Try.ntmps33
  go_wp2
  obtain ⟨b2, hb2⟩ : ∃ b, b = w.heap.size := ⟨_, rfl⟩
  obtain ⟨b3, hb3⟩ : ∃ b, b = w.heap.size + 1 := ⟨_, rfl⟩
  obtain ⟨w2, hw2⟩ : ∃ w2, w2 = (w.alloc (.cells #[.int .i64 v, Fv] 24)).alloc (.cells #[.int .i64 g, .slice G n cg] 29) := ⟨_, rfl⟩
  have HB2 := Aside0.mk (show Below w.heap.size w w2 by rw [hw2]; exact below_alloc (below_alloc (Below.refl _ _) _) _)
  have HSZ := Aside0.mk HB2.out.size
  have HCV := Aside0.mk (show w2.cell? ⟨b2, 0, none⟩ = some (.int .i64 v) by rw [hw2, hb2, World.cell?_alloc_lt _ _ _ (by simp), cell_new]; rfl)
  have HCG := Aside0.mk (show w2.cell? ⟨b3, 0, none⟩ = some (.int .i64 g) by
    rw [hw2, hb3]
    have := cell_new (w.alloc (.cells #[.int .i64 v, Fv] 24)) #[.int .i64 g, .slice G n cg] 29 0
    rw [show (w.alloc (.cells #[.int .i64 v, Fv] 24)).heap.size = w.heap.size + 1 by simp] at this
    exact this)
  have HCR := Aside0.mk (Kd.C_below HR.out HB2.out)
  rw [← hb3, ← hb2, ← hw2]
  clear hw2 hb2 hb3
  go_loopg [6, 20] (n + 1) (fun kq v6 v20 w' => ∃ i : Nat, v20 = .int .i64 (i : Int) ∧ Aside0 (R = rightFrom v g (gl.drop i)) ∧ i ≤ n ∧ Aside0 (n < kq + i) ∧ Aside0 (Below w2.heap.size w2 w'))
  case atStart => exact ⟨0, rfl, H0, Nat.zero_le _, ⟨by omega⟩, ⟨Below.refl _ _⟩⟩
  case round =>
    clear H0
    obtain ⟨i, rfl, HRR, hi, HK, HB⟩ := hrel
    cases gk with
    | zero => exact absurd HK.out (by omega)
    | succ k =>
      have hr := HRR.out
      clear HRR
      by_cases hlt : i < n
      · obtain ⟨ad, A0, c0, c, e, hl, hcell, hlc, hC⟩ := at_rows (Kd.C_below HCR.out HB.out) i hlt
        cases e
        rw [List.drop_eq_getElem_cons (by have := HN.out; omega)] at hr
        have hgc : gl[i]'(by have := HN.out; omega) = c := by rw [List.getElem?_eq_getElem (by have := HN.out; omega)] at hl; exact Option.some.inj hl
        rw [hgc] at hr
        have hr' : R = (rightc v g c && rightFrom v g (gl.drop (i + 1))) := hr
        have hcv := pw_cell_below HB.out HCV.out
        have hcg := pw_cell_below HB.out HCG.out
        have HH1 := has_calls A0 c0 c g wr hC
        have HH2 := has_calls A0 c0 c (-g) wr hC
        have HP : PredRow Try.prog 60 #[.pointer (some ⟨b2, 0, none⟩)] (nums .i64 c) (fun j => badLit v (rd c (j : Int))) wr := by
          intro j u hu W hW
          have hj : j < c.length := by have := (List.getElem?_eq_some_iff.1 hu).1; rwa [nums_length] at this
          have : u = .int .i64 (rd c (j : Int)) := by
            simp [nums, List.getElem?_eq_getElem hj] at hu
            rw [← hu]; simp [rd, List.getD_eq_getElem?_getD, List.getElem?_eq_getElem hj]
          subst this
          refine (clo60_calls b2 v _ W (pw_cell_below hW hcv) (by omega) hv1).mono ?_
          rintro e w' ⟨rfl, rfl⟩
          exact ⟨rfl, Below.refl _ _⟩
        have HHC := contains_38 _ _ HE60.out A0 c.length c0 (nums .i64 c) _ wr (nums_length _ _) (row1_ints hC) HP
        rw [firstIdx_any] at HHC
        have HC := Aside0.mk HHC
        have hrc := rightc.eq_1 v g c
        rcases hA : has c g with _ | _
        all_goals rcases hBq : has c (-g) with _ | _
        all_goals rcases hX : c.any (badLit v) with _ | _
        all_goals rw [hA, hBq, hX] at hrc
        all_goals rw [hA] at HH1
        all_goals rw [hBq] at HH2
        all_goals rw [hX] at HC
        all_goals rw [hrc] at hr'
        all_goals obtain ⟨q, hq⟩ : ∃ q, q = c.length := ⟨_, rfl⟩
        all_goals rw [← hq] at hcell HH1 HH2 HC
        all_goals have HR2 := Aside0.mk hr'
        all_goals have H1 := Aside0.mk HH1
        all_goals have H2 := Aside0.mk HH2
        all_goals clear hr hr' hrc hA hBq hX HP HHC HH1 HH2 hC hl hgc hlc hq
        · go_wp2_with (first | (go_at_call 40; first | (refine H1.out.mono ?_; clear H1; rintro e w4 ⟨rfl, rfl⟩) | (refine H2.out.mono ?_; clear H2; rintro e w4 ⟨rfl, rfl⟩)))
          go_ret
          exact ⟨by rw [HR2.out]; rfl, below_then HB2.out HSZ.out HB.out⟩
        · go_wp2_with (first | (go_at_call 40; first | (refine H1.out.mono ?_; clear H1; rintro e w4 ⟨rfl, rfl⟩) | (refine H2.out.mono ?_; clear H2; rintro e w4 ⟨rfl, rfl⟩)))
          go_ret
          exact ⟨by rw [HR2.out]; rfl, below_then HB2.out HSZ.out HB.out⟩
        all_goals go_wp2_with (first | (go_at_call 40; first | (refine H1.out.mono ?_; clear H1; rintro e w4 ⟨rfl, rfl⟩) | (refine H2.out.mono ?_; clear H2; rintro e w4 ⟨rfl, rfl⟩)) | (go_at_call 38; refine HC.out.mono ?_; rintro e w5 ⟨rfl, hb5⟩; have HB5 := Aside0.mk (below_then HB.out HB.out.size hb5); clear hb5))
        · go_roundg k
          case measure => omega
          case rel => exact ⟨i + 1, by go_num, ⟨by rw [HR2.out]; rfl⟩, by omega, ⟨by have := HK.out; omega⟩, HB5⟩
        · go_ret
          exact ⟨by rw [HR2.out]; rfl, below_then HB2.out HSZ.out HB5.out⟩
        · go_roundg k
          case measure => omega
          case rel => exact ⟨i + 1, by go_num, ⟨by rw [HR2.out]; rfl⟩, by omega, ⟨by have := HK.out; omega⟩, HB5⟩
        · go_ret
          exact ⟨by rw [HR2.out]; rfl, below_then HB2.out HSZ.out HB5.out⟩
        · go_roundg k
          case measure => omega
          case rel => exact ⟨i + 1, by go_num, ⟨by rw [HR2.out]; rfl⟩, by omega, ⟨by have := HK.out; omega⟩, HB5⟩
        · go_ret
          exact ⟨by rw [HR2.out]; rfl, below_then HB2.out HSZ.out HB5.out⟩
      · obtain rfl : i = n := by omega
        have hr2 : R = true := by rw [hr, HN.out, List.drop_length]; rfl
        have HR2 := Aside0.mk hr2
        clear hr hr2
        go_wp2
        go_ret
        exact ⟨by rw [HR2.out]; rfl, below_then HB2.out HSZ.out HB.out⟩

end Go.Proofs.Ythhmjfjkbmmcaaa
/- clean.kind, clean.Back at one variable that went. -/
namespace Go.Proofs.Ythhmjfjkbmmcaaa
open Go.RowKit Go.Proofs.YthhmjfjkbmmcaaaW.PrintWords Go.Proofs.YthhmjfjkbmmcaaaW.PrintLast Go.Proofs.YthhmjfjkbmmcaaaW.PrintMore
set_option linter.unusedVariables false
set_option linter.unusedSimpArgs false

theorem kind_calls (g : Int) (G : Option Addr) (n cg : Nat) (w : World) (hn : n ≠ 1) (hmax : n ≤ 1099511627776) :
    Calls Try.prog 35 #[.agg #[.int .i64 g, .slice G n cg]] w fun e w' => e = .returned (.iface 67 (.agg #[.int .i64 g, .slice G n cg])) ∧ Below w.heap.size w w' := by
  have hb : ((n : Int) == 1) = false := by rw [beq_eq_false_iff_ne]; omega
  go_enter Try.func35, Try.ntmps35
  go_wp2
  go_ret
  exact ⟨rfl, below_alloc (Below.refl _ _) _⟩

theorem cell_alloc_keep {w : World} {a : Addr} {u : Value} {o : Obj} (h : w.cell? a = some u) : (w.alloc o).cell? a = some u := by rw [World.cell?_alloc_lt _ _ _ (World.block_lt_of_cell? w a h)]; exact h
theorem own_cellB {w : World} {base g n cap : Nat} {e : TypeId} {xs : List Bool} (h : w.ownsRow base e 1 (.slice (some ⟨g, 0, none⟩) n cap) n (xs.map Value.bool)) (i : Nat) (hi : i < n) : ∃ old, w.cell? ⟨g, i, none⟩ = some (.bool old) ∧ w.frozen? ⟨g, i, none⟩ = false := by
  obtain ⟨g', cap', hv, hbg, hlt, hnc, hcm, hl, hH⟩ := Lib.holds_of_ownsRow h (by simp)
  injection hv with hv1 _ hv3
  injection hv1 with hv1
  injection hv1 with hv1
  subst hv1
  obtain ⟨h1, h2⟩ := hH i (by simpa using (by omega : i < xs.length))
  rw [Nat.zero_add] at h1 h2
  exact ⟨_, h1, h2⟩
theorem own_setB {w : World} {base g n cap : Nat} {e : TypeId} {xs : List Bool} (h : w.ownsRow base e 1 (.slice (some ⟨g, 0, none⟩) n cap) n (xs.map Value.bool)) (i : Nat) {q : Int} (hq : i = (q - 1).toNat) (y : Bool) : (w.setCell ⟨g, i, none⟩ (.bool y)).ownsRow base e 1 (.slice (some ⟨g, 0, none⟩) n cap) n ((xs.set (q - 1).toNat y).map Value.bool) := by
  have := (h.stored i (.bool y)).1
  rw [List.map_set, ← hq]
  exact this
theorem as_lit (X : Value) (W : World) : (Instr.typeAssert (.iface 67 X) 63 65 true).run Try.prog W = .ok (.tuple #[.int .i64 0, .bool false]) W := by kernel_rfl
theorem as_var (X : Value) (W : World) : (Instr.typeAssert (.iface 67 X) 63 67 true).run Try.prog W = .ok (.tuple #[X, .bool true]) W := by kernel_rfl
theorem own_form_ne {w : World} {base n : Nat} {e : TypeId} {v : Value} {xs : List Value} (h : w.ownsRow base e 1 v n xs) (hne : v ≠ .slice none 0 0) : ∃ g cap, v = .slice (some ⟨g, 0, none⟩) n cap ∧ base ≤ g := by
  rcases h.2 with ⟨e0, _⟩ | ⟨g, cap, cur, e0, hb, _⟩
  · exact absurd e0 hne
  · exact ⟨g, cap, e0, hb⟩
theorem C_of_ownB {w : World} {base n : Nat} {e : TypeId} {A : Option Addr} {c : Nat} {xs : List Bool} (h : w.ownsRow base e 1 (.slice A n c) n (xs.map Value.bool)) (hl : n = xs.length) : Kd.bool.C w A xs.length xs := by
  subst hl
  exact (Kd.R_reads' (Kd.R_of_own (h1 := fun _ => rfl) (ok := fun _ => True) h (fun _ _ => trivial))).2.2
theorem infoBool : (Try.prog.info? 4).map (fun i => (i.zero, i.size, i.bytes)) = some (some (.bool false), 1, 1) := by kernel_rfl

set_option maxRecDepth 100000 in
set_option maxHeartbeats 8000000 in
theorem back_calls (v g : Int) (A G : Option Addr) (c cg bg bm cgo cm : Nat) (ls gl : List (List Int)) (m : List Bool) (w : World) (hf : Kd.C kClause w A ls.length ls) (hck : chk v ls = 0) (hgo : w.heap[bg]? = some (.cells #[.int .i64 g, .slice G gl.length cg] 29 (0, 0))) (hG : Kd.C kClause w G gl.length gl) (hm : Kd.C Kd.bool w (some ⟨bm, 0, none⟩) m.length m) (hlm : (m.length : Int) = v) (hv : v ≤ 262144) (hg0 : 1 ≤ g) (hg1 : g ≤ v) (hr : rightFrom v g gl = true) (hn1 : gl.length ≠ 1) (hglm : gl.length ≤ 1099511627776) (hgls : ∀ l ∈ gl, l.length ≤ 1099511627776) (hin : ∀ c ∈ gl, ∀ x ∈ c, InM m x) :
    Calls Try.prog 18 #[.agg #[.int .i64 v, .slice A ls.length c], .slice (some ⟨bg, 0, none⟩) 1 cgo, .slice (some ⟨bm, 0, none⟩) m.length cm] w fun e w' => ∃ v', e = .returned (.tuple #[v', .int .i64 0]) ∧ w'.ownsRow w.heap.size 4 1 v' m.length ((m.set (g - 1).toNat (needsv g m gl)).map Value.bool) ∧ Below w.heap.size w w' := by
  have hbgl : bg < w.heap.size := (Array.getElem?_eq_some_iff.1 hgo).1
  have HCK : Aside0 (∀ W, Below w.heap.size w W → Calls Try.prog 20 #[.agg #[.int .i64 v, .slice A ls.length c]] W fun e w' => e = .returned (.int .i64 0) ∧ Below W.heap.size W w') := ⟨fun W hW => by have := check_calls v A c ls W (Kd.C_below hf hW); rw [hck] at this; exact this⟩
  have HRT : Aside0 (∀ W, Below w.heap.size w W → Calls Try.prog 33 #[.agg #[.int .i64 v, .slice A ls.length c], .agg #[.int .i64 g, .slice G gl.length cg]] W fun e w' => e = .returned (.bool true) ∧ Below W.heap.size W w') := ⟨fun W hW => by have := right_calls v g (.slice A ls.length c) G cg gl W (Kd.C_below hG hW) hv hg0 hg1 hglm rfl rfl hgls; rw [hr] at this; exact this⟩
  have HC0 : Aside0 (∀ W, Below w.heap.size w W → W.cell? ⟨bg, 0, none⟩ = some (.int .i64 g) ∧ W.cell? ⟨bg, 1, none⟩ = some (.slice G gl.length cg)) := ⟨fun W hW => by
    have e0 : w.cell? ⟨bg, 0, none⟩ = some (.int .i64 g) := by unfold World.cell?; rw [hgo]; rfl
    have e1 : w.cell? ⟨bg, 1, none⟩ = some (.slice G gl.length cg) := by unfold World.cell?; rw [hgo]; rfl
    exact ⟨pw_cell_below hW e0, pw_cell_below hW e1⟩⟩
  have HCLN : Aside0 (∀ W, Below w.heap.size w W → Calls Try.prog 34 #[.slice (some ⟨bm, 0, none⟩) m.length cm] W fun e w' => ∃ v', e = .returned v' ∧ w'.ownsRow W.heap.size 4 1 v' m.length (m.map Value.bool) ∧ v' ≠ .slice none 0 0 ∧ Below W.heap.size W w') := ⟨fun W hW => by
    obtain ⟨i0, hi, hz0, hz1, hz2⟩ := info_parts infoBool
    exact Try.slices_Clone i0 (.bool false) 1 1 hi hz0 hz1 hz2 rfl (by omega) (fun w => Try.sizeOf4 w) bm 0 m.length cm (m.map Value.bool) W (by simp) (by unfold maxLen; omega) (by omega) (fun j u hu => by
      have hj : j < m.length := by have := (List.getElem?_eq_some_iff.1 hu).1; simpa using this
      obtain ⟨ad, e, hc⟩ := Kd.at_bool (Kd.C_below hm hW) (j : Int) (by omega) (by omega)
      injection e with e
      subst e
      rw [Int.toNat_natCast, add_plain] at hc
      rw [Nat.zero_add, hc]
      simp [List.getElem?_eq_getElem hj] at hu
      rw [← hu]
      simp [rdOf, List.getD_eq_getElem?_getD, List.getElem?_eq_getElem hj]) (fun u hu => by simp only [List.mem_map] at hu; obtain ⟨q, _, rfl⟩ := hu; rfl)⟩
  obtain ⟨n, hn⟩ : ∃ n, n = ls.length := ⟨_, rfl⟩
  obtain ⟨ng, hng⟩ : ∃ ng, ng = gl.length := ⟨_, rfl⟩
  obtain ⟨nm, hnm⟩ : ∃ nm, nm = m.length := ⟨_, rfl⟩
  rw [← hn] at HCK HRT
  rw [← hng] at HRT HC0
  rw [← hnm] at HCLN
  rw [← hn, ← hnm]
  obtain ⟨y, hy⟩ : ∃ y, y = needsv g m gl := ⟨_, rfl⟩
  rw [← hy]
  have HY := Aside0.mk hy.symm
  have HNN := Aside0.mk (And.intro hn (And.intro hng hnm))
  have HM := Aside0.mk hm
  have HG := Aside0.mk hG
  have HIN := Aside0.mk hin
  have hlm' : (nm : Int) = v := by rw [hnm]; exact hlm
  have hngn : ng ≠ 1 := by rw [hng]; exact hn1
  have hngm : ng ≤ 1099511627776 := by rw [hng]; exact hglm
  clear hf hck hgo hr hgls hn hng hnm hlm hm hG hin hn1 hglm hy
  go_enter Try.func18, Try.ntmps18
  go_wp2_with (go_at_call 20; refine (HCK.out _ (below_alloc (Below.refl _ _) _)).mono ?_; rintro e w1 ⟨rfl, hb1⟩; have HB1 := Aside0.mk (below_then (below_alloc (Below.refl w.heap.size w) _) (below_alloc (Below.refl w.heap.size w) _).size hb1); have HX1 := Aside0.mk (And.intro (pw_cell_below hb1 (show (w.alloc (.cells #[.int .i64 v, .slice A n c] 24)).cell? ⟨w.heap.size, 0, none⟩ = some (.int .i64 v) by rw [cell_new]; rfl)) (pw_cell_below hb1 (show (w.alloc (.cells #[.int .i64 v, .slice A n c] 24)).cell? ⟨w.heap.size, 1, none⟩ = some (.slice A n c) by rw [cell_new]; rfl))); clear hb1)
  go_loopg [25] 2 (fun kq v25 w' => ∃ i : Nat, v25 = .int .i64 (i : Int) ∧ i ≤ 1 ∧ 1 < kq + i ∧ Aside0 (w'.cell? ⟨w.heap.size, 0, none⟩ = some (.int .i64 v) ∧ w'.cell? ⟨w.heap.size, 1, none⟩ = some (.slice A n c)) ∧ Aside0 (Below w.heap.size w w'))
  case atStart => exact ⟨0, rfl, by omega, by omega, HX1, HB1⟩
  case round =>
    obtain ⟨i, rfl, hi, hk, HX, HB⟩ := hrel
    obtain ⟨hx0, hx1⟩ := HX.out
    cases gk with
    | zero => omega
    | succ k =>
      by_cases hlt : i < 1
      · obtain rfl : i = 0 := by omega
        obtain ⟨hc0, hc1⟩ := HC0.out _ HB.out
        have hy0 := cell_alloc_keep (o := .cells #[.int .i64 g, .slice G ng cg] 29) hx0
        have hy1 := cell_alloc_keep (o := .cells #[.int .i64 g, .slice G ng cg] 29) hx1
        go_wp2_with (go_at_call 33; refine (HRT.out _ (below_alloc HB.out _)).mono ?_; rintro e w2 ⟨rfl, hb2⟩; have HB2 := Aside0.mk (below_then (below_alloc HB.out _) (below_alloc HB.out _).size hb2); have HX2 := Aside0.mk (And.intro (pw_cell_below hb2 (cell_alloc_keep HX.out.1)) (pw_cell_below hb2 (cell_alloc_keep HX.out.2))); clear hb2)
        go_roundg k
        case measure => omega
        case rel => exact ⟨1, by go_num, by omega, by omega, HX2, HB2⟩
      · obtain rfl : i = 1 := by omega
        have HCL := Aside0.mk (HCLN.out _ HB.out)
        go_wp2_with (go_at_call 34; refine HCL.out.mono ?_; rintro e w2 ⟨v2, rfl, ho, hne, hb2⟩; obtain ⟨g2, cap2, rfl, hgb2⟩ := own_form_ne ho hne; have HO := Aside0.mk ho; have HGB := Aside0.mk hgb2; have HB2 := Aside0.mk (below_then HB.out HB.out.size hb2); clear ho hne hgb2 hb2)
        have HN : Aside0 (∀ W, Below w2.heap.size w2 W → Calls Try.prog 36 #[.agg #[.int .i64 g, .slice G gl.length cg], .slice (some ⟨g2, 0, none⟩) m.length cap2] W fun e w' => e = .returned (.bool (needsv g m gl)) ∧ Below W.heap.size W w') := ⟨fun W hW => needs_calls g G (some ⟨g2, 0, none⟩) cg cap2 gl m W (C_of_ownB (pw_own_below HO.out hW) HNN.out.2.2) (Kd.C_below (Kd.C_below HG.out HB2.out) hW) HIN.out⟩
        obtain ⟨hc0, hc1⟩ := HC0.out _ HB2.out
        rw [HY.out] at HN
        rw [← HNN.out.2.1, ← HNN.out.2.2] at HN
        have hgn : (g - 1).toNat < nm := by omega
        go_loopg [12] 3 (fun kq v12 w' => (v12 = .int .i64 0 ∧ kq = 3 ∧ w2 = w') ∨ (v12 = .int .i64 (-1) ∧ kq = 2 ∧ Aside0 (w'.ownsRow wr.heap.size 4 1 (.slice (some ⟨g2, 0, none⟩) nm cap2) nm ((m.set (g - 1).toNat y).map Value.bool)) ∧ Aside0 (Below w.heap.size w w')))
        case atStart => exact .inl ⟨rfl, rfl, rfl⟩
        case round =>
          rcases hrel with ⟨rfl, hkq, rfl⟩ | ⟨rfl, hkq, HO2, HB3⟩
          · cases gk with
            | zero => omega
            | succ kk =>
              have hal := fun W : World => as_lit (.agg #[.int .i64 g, .slice G ng cg]) W
              have hav := fun W : World => as_var (.agg #[.int .i64 g, .slice G ng cg]) W
              go_wp2_with (go_at_call 35; refine (kind_calls g G ng cg _ hngn hngm).mono ?_; rintro e w3 ⟨rfl, hb3⟩; have HK3 := Aside0.mk hb3; clear hb3)
              have hsum : IntKind.i64.wrap (g - 1) = g - 1 := by rw [IntKind.wrap_i64]; omega
              go_region_with (go_at_call 36; refine (HN.out _ (below_drew (below_alloc HK3.out _))).mono ?_; rintro e w5 ⟨rfl, hb5⟩; have HB5 := Aside0.mk (below_then (below_drew (below_alloc HK3.out _)) (below_drew (below_alloc HK3.out _)).size hb5); have HO5 := Aside0.mk (pw_own_below HO.out HB5.out); obtain ⟨old, hold, hfz⟩ := own_cellB HO5.out (g.toNat - 1) (by omega); have hq0 := pw_cell_below hb5 (show World.cell? _ ⟨w3.heap.size, 0, none⟩ = some (.int .i64 g) by show (w3.alloc _).cell? _ = _; rw [cell_new]; rfl); have hq1 := pw_cell_below hb5 (show World.cell? _ ⟨w3.heap.size, 1, none⟩ = some (.slice G ng cg) by show (w3.alloc _).cell? _ = _; rw [cell_new]; rfl); clear hb5)
              all_goals (go_wp2; go_roundg kk; (case measure => omega); (case rel => exact .inr ⟨by go_num, by omega, ⟨own_setB HO5.out (g.toNat - 1) (by omega) y⟩, ⟨(below_then HB2.out HB2.out.size HB5.out).grown (HO5.out.stored (g.toNat - 1) (.bool y)).2 (below_then HB2.out HB2.out.size HB5.out).size (by rintro k e; injection e with e; have := HGB.out; have := HB.out.size; omega)⟩⟩))
          · cases gk with
            | zero => omega
            | succ kk =>
              go_wp2
              go_ret2
              exact ⟨_, rfl, own_less HO2.out HB.out.size, HB3.out⟩

end Go.Proofs.Ythhmjfjkbmmcaaa
/- clean.Out where it takes a variable out. -/
namespace Go.Proofs.Ythhmjfjkbmmcaaa
open Go.RowKit Go.Proofs.YthhmjfjkbmmcaaaW.PrintWords Go.Proofs.YthhmjfjkbmmcaaaW.PrintLast Go.Proofs.YthhmjfjkbmmcaaaW.PrintMore
open GCS
set_option linter.unusedVariables false
set_option linter.unusedSimpArgs false

theorem chkFrom_good {v : Int} (hv : v ≤ 262144) : ∀ {ls : List (List Int)}, chkFrom v ls = 0 → ∀ l ∈ ls, Good l
  | [], _, l, hl => by simp at hl
  | c :: ls, h, l, hl => by
    simp only [chkFrom] at h
    split at h
    · omega
    · split at h
      · omega
      · rename_i h1 h2
        rcases List.mem_cons.1 hl with rfl | hl
        · refine ⟨by omega, fun x hx => ?_⟩
          have hb := (List.any_eq_false.1 ((Bool.not_eq_true _).mp h2)) x hx
          simp only [badLit, Bool.or_eq_true, beq_iff_eq, decide_eq_true_eq, not_or] at hb
          exact ⟨hb.1.1, by omega, by omega⟩
        · exact chkFrom_good hv h l hl
theorem chk_good {v : Int} {ls : List (List Int)} (h : chk v ls = 0) : 0 ≤ v ∧ v ≤ 262144 ∧ ls.length ≤ 524288 ∧ ∀ l ∈ ls, Good l := by
  unfold chk at h
  split at h
  · omega
  · split at h
    · omega
    · rename_i h1 h2
      exact ⟨by omega, by omega, by omega, chkFrom_good (by omega) h⟩

theorem blk_skip0 {w : World} {g g' : Nat} {o : Obj} (h : w.heap[g]? = some o) (hne : g ≠ g') (i : Nat) (u : Value) : (w.setCell ⟨g', i, none⟩ u).heap[g]? = some o := by
  rw [Below.heap_setCell w ⟨g', i, none⟩ u g hne]
  exact h
theorem out_end {w4 : World} {b4 b5 : Nat} {t4 t5 : TypeId} {a4 c4 a5 c5 : Value} (h4 : w4.heap[b4]? = some (.cells #[a4, c4] t4 (0, 0))) (h5 : w4.heap[b5]? = some (.cells #[a5, c5] t5 (0, 0))) (hne : b4 ≠ b5) (p q r s : Value) :
    ((((w4.setCell ⟨b4, 0, none⟩ p).setCell ⟨b4, 1, none⟩ q).setCell ⟨b5, 0, none⟩ r).setCell ⟨b5, 1, none⟩ s).heap[b4]? = some (.cells #[p, q] t4 (0, 0)) ∧ ((((w4.setCell ⟨b4, 0, none⟩ p).setCell ⟨b4, 1, none⟩ q).setCell ⟨b5, 0, none⟩ r).setCell ⟨b5, 1, none⟩ s).heap[b5]? = some (.cells #[r, s] t5 (0, 0)) ∧ (∀ k, k ≠ b4 → k ≠ b5 → ((((w4.setCell ⟨b4, 0, none⟩ p).setCell ⟨b4, 1, none⟩ q).setCell ⟨b5, 0, none⟩ r).setCell ⟨b5, 1, none⟩ s).heap[k]? = w4.heap[k]?) ∧ (∀ B, B ≤ b4 → B ≤ b5 → Below B w4 ((((w4.setCell ⟨b4, 0, none⟩ p).setCell ⟨b4, 1, none⟩ q).setCell ⟨b5, 0, none⟩ r).setCell ⟨b5, 1, none⟩ s)) := by
  refine ⟨?_, ?_, fun k h1 h2 => ?_, fun B h1 h2 => ((((Below.refl B w4).setCell h1 _).setCell h1 _).setCell h2 _).setCell h2 _⟩
  · exact blk_skip0 (blk_skip0 (blk_put (blk_put h4 0 p rfl) 1 q rfl) hne 0 r) hne 1 s
  · exact blk_put (blk_put (blk_skip0 (blk_skip0 h5 (Ne.symm hne) 0 p) (Ne.symm hne) 1 q) 0 r rfl) 1 s rfl
  · rw [Below.heap_setCell _ ⟨b5, 1, none⟩ s k h2, Below.heap_setCell _ ⟨b5, 0, none⟩ r k h2, Below.heap_setCell _ ⟨b4, 1, none⟩ q k h1, Below.heap_setCell _ ⟨b4, 0, none⟩ p k h1]
theorem blk_skip {w : World} {g g' : Nat} {o : Obj} (h : w.heap[g]? = some o) (hne : g ≠ g') (i : Nat) (u : Value) : (w.setCell ⟨g', i, none⟩ u).heap[g]? = some o := by
  rw [Below.heap_setCell w ⟨g', i, none⟩ u g hne]
  exact h
set_option maxRecDepth 100000 in
set_option maxHeartbeats 8000000 in
theorem out_calls (k : Nat) (v x : Int) (A : Option Addr) (c : Nat) (ls r1 r3 : List (List Int)) (r2 : Int) (w : World) (hf : Kd.C kClause w A ls.length ls) (hc : ls.length ≤ c) (hck : chk v ls = 0) (hx0 : 1 ≤ x) (hx1 : x ≤ v) (h : clean_out.f k (tidyv ls) x = some (r1, r2, r3, true)) (hl1 : r1.length ≤ 4398046511104) (hs1 : ∀ l ∈ r1, l.length ≤ 1099511627776) :
    Calls Try.prog 8 #[.agg #[.int .i64 v, .slice A ls.length c], .int .i64 x] w fun e w' => ∃ v1 G cg, e = .returned (.tuple #[.agg #[.int .i64 v, v1], .agg #[.int .i64 r2, .slice G r3.length cg], .int .i64 0]) ∧ Kd.S kClause 43 w' w.heap.size (fun _ => True) v1 r1 ∧ Kd.C kClause w' G r3.length r3 ∧ r3.length ≤ cg ∧ Below w.heap.size w w' := by
  obtain ⟨hv0, hv1, hln, hgood⟩ := chk_good hck
  have HCK : Aside0 (∀ W, Below w.heap.size w W → Calls Try.prog 20 #[.agg #[.int .i64 v, .slice A ls.length c]] W fun e w' => e = .returned (.int .i64 0) ∧ Below W.heap.size W w') := ⟨fun W hW => by have := check_calls v A c ls W (Kd.C_below hf hW); rw [hck] at this; exact this⟩
  have HTD : Aside0 (∀ W, Below w.heap.size w W → Calls Try.prog 22 #[.slice A ls.length c] W fun e w' => ∃ v, e = .returned v ∧ Kd.V kClause 43 w' W.heap.size (fun k_ => (W.heap.size ≤ k_)) v (tidyv ls) ∧ Below W.heap.size W w') := ⟨fun W hW => tidy_calls A c ls W (Kd.C_below hf hW) hgood (by omega)⟩
  have HF := Aside0.mk hf
  have HH := Aside0.mk h
  obtain ⟨n, hn⟩ : ∃ n, n = ls.length := ⟨_, rfl⟩
  have HN := Aside0.mk hn
  rw [← hn] at HCK HTD hc ⊢
  obtain ⟨w0, hw0⟩ : ∃ w0, w0 = ((w.alloc (.cells #[.int .i64 v, .slice A n c] 24)).alloc (.cells #[.int .i64 0, .slice none 0 0] 24)).alloc (.cells #[.int .i64 0, .slice none 0 0] 29) := ⟨_, rfl⟩
  have HW0 := Aside0.mk hw0
  have HCB : Aside0 (∀ W, Below w0.heap.size w0 W → W.heap[w.heap.size]? = some (.cells #[.int .i64 v, .slice A n c] 24 (0, 0)) ∧ W.heap[w.heap.size + 1]? = some (.cells #[.int .i64 0, .slice none 0 0] 24 (0, 0)) ∧ W.heap[w.heap.size + 1 + 1]? = some (.cells #[.int .i64 0, .slice none 0 0] 29 (0, 0))) := ⟨fun W hW => by
    have hsz : w0.heap.size = w.heap.size + 3 := by rw [hw0]; simp
    rw [hW.block _ (by omega), hW.block _ (by omega), hW.block _ (by omega), hw0]
    refine ⟨?_, ?_, ?_⟩
    · rw [heap_alloc_old _ _ (by simp; omega), heap_alloc_old _ _ (by simp), heap_alloc_new]
    · rw [heap_alloc_old _ _ (by simp)]; exact heap_new2 _ _ _
    · have := heap_new2 (w.alloc (.cells #[.int .i64 v, .slice A n c] 24)) (.cells #[.int .i64 0, .slice none 0 0] 24) (.cells #[.int .i64 0, .slice none 0 0] 29)
      rwa [show (w.alloc (.cells #[.int .i64 v, .slice A n c] 24)).heap.size = w.heap.size + 1 by simp] at this⟩
  have HBW := Aside0.mk (show Below w.heap.size w w0 by rw [hw0]; exact below_alloc (below_alloc (below_alloc (Below.refl _ _) _) _) _)
  have HSZ := Aside0.mk HBW.out.size
  obtain ⟨p, hp⟩ : ∃ p, p = (tidyv ls).length := ⟨_, rfl⟩
  obtain ⟨q1, hq1⟩ : ∃ q, q = r1.length := ⟨_, rfl⟩
  obtain ⟨q3, hq3⟩ : ∃ q, q = r3.length := ⟨_, rfl⟩
  have HPQ := Aside0.mk (And.intro hp (And.intro hq1 hq3))
  rw [← hq3]
  have HOC : Aside0 (∀ (W W1 : World) (A2 : Option Addr) (c2 : Nat), p ≤ c2 → Kd.F kClause W (fun k_ => W1.heap.size ≤ k_) A2 p (tidyv ls) → Calls Try.prog 21 #[.slice A2 p c2, .int .i64 x] W fun e w' => ∃ A3 c3 G cg, e = .returned (.tuple #[.slice A3 q1 c3, .agg #[.int .i64 r2, .slice G q3 cg], .bool true]) ∧ q1 ≤ c3 ∧ q3 ≤ cg ∧ Kd.C kClause w' A3 q1 r1 ∧ Kd.F kClause w' (fun k_ => W1.heap.size ≤ k_ ∨ W.heap.size ≤ k_) G q3 r3 ∧ Below W.heap.size W w') := ⟨fun W W1 A2 c2 h1 h2 => by
    rw [hp] at h1 h2 ⊢
    refine (clean_out.calls k (fun k_ => W1.heap.size ≤ k_) A2 c2 (tidyv ls) x r1 r2 r3 true W (Kd.V_mk h1 h2) h).mono ?_
    rintro e w' ⟨v0, v2, rfl, hV, hN, hB⟩
    obtain ⟨A3, c3, rfl, hl3, hF3⟩ := hV
    obtain ⟨G, cg, rfl⟩ := Kd.N_slice hN
    have hlg := (Kd.N_reads' hN).2.1
    have hCG := Kd.N_F hN
    rw [hq1, hq3]
    exact ⟨A3, c3, G, cg, rfl, hl3, hlg, Kd.F_now hF3, hCG, hB⟩⟩
  have HMD : Aside0 (∀ (W : World) (A3 : Option Addr) (c3 : Nat), Below w.heap.size w W → q1 ≤ c3 → Kd.C kClause W A3 q1 r1 → Calls Try.prog 23 #[.agg #[.int .i64 v, .slice A n c], .slice A3 q1 c3] W fun e w' => ∃ v1_ : Value, e = .returned (.agg #[.int .i64 v, v1_]) ∧ Kd.S kClause 43 w' W.heap.size (fun _ => True) v1_ r1 ∧ Below W.heap.size W w') := ⟨fun W A3 c3 hW h1 h2 => by
    have hf' := Kd.C_below hf hW
    rw [hn] at hc ⊢
    rw [hq1] at h1 h2 ⊢
    exact made_calls v A c ls A3 c3 r1 W hf' hc h2 h1 hl1 hs1⟩
  clear hf hck hgood h hn hw0 hp hq1 hq3 hl1 hs1 hln
  go_enter Try.func8, Try.ntmps8
  go_wp2_with (first | (go_at_call 20; rw [← HW0.out]; refine (HCK.out _ HBW.out).mono ?_; rintro e w1 ⟨rfl, hb1⟩; have HB1 := Aside0.mk hb1; obtain ⟨k2, k4, k5⟩ := HCB.out _ hb1; have hcz0 := blk_cell k2 0; have hcz1 := blk_cell k2 1; have K4 := Aside0.mk k4; have K5 := Aside0.mk k5; clear hb1 k4 k5 k2) | (go_at_call 22; refine (HTD.out _ (below_then HBW.out HSZ.out HB1.out)).mono ?_; rintro e w2 ⟨v2, rfl, hV2, hb2⟩; obtain ⟨A2, c2, rfl, hl2, hF2⟩ := hV2; rw [← HPQ.out.1] at hl2 hF2 ⊢; have HF2 := Aside0.mk hF2; have HB2 := Aside0.mk (below_then HB1.out HB1.out.size hb2); clear hF2 hb2) | (go_at_call 21; refine (HOC.out _ _ A2 c2 hl2 HF2.out).mono ?_; rintro e w3 ⟨A3, c3, G, cg, rfl, hl3, hlg, hC3, hCG, hb3⟩; have HC3 := Aside0.mk hC3; have HCG := Aside0.mk hCG; have HB3 := Aside0.mk (below_then HB2.out HB2.out.size hb3); clear hC3 hCG hb3))
  obtain ⟨k2, k4, k5⟩ := HCB.out _ HB3.out
  have hy0 := cell_alloc_keep (o := .cells #[.int .i64 r2, .slice G q3 cg] 29) (show w3.cell? ⟨w.heap.size, 0, none⟩ = some (.int .i64 v) from blk_cell k2 0)
  have hy1 := cell_alloc_keep (o := .cells #[.int .i64 r2, .slice G q3 cg] 29) (show w3.cell? ⟨w.heap.size, 1, none⟩ = some (.slice A n c) from blk_cell k2 1)
  have hz0 : (w3.alloc (.cells #[.int .i64 r2, .slice G q3 cg] 29)).cell? ⟨w3.heap.size, 0, none⟩ = some (.int .i64 r2) := by rw [cell_new]; rfl
  have hz1 : (w3.alloc (.cells #[.int .i64 r2, .slice G q3 cg] 29)).cell? ⟨w3.heap.size, 1, none⟩ = some (.slice G q3 cg) := by rw [cell_new]; rfl
  have hw3 : w.heap.size + 3 ≤ w3.heap.size := by
    have h1 := HB3.out.size
    have h2 := congrArg (fun W : World => W.heap.size) HW0.out
    simp at h2
    omega
  have hn1 : ¬ (w3.heap.size = w.heap.size + 1) := by omega
  have hn2 : ¬ (w.heap.size + 1 = w3.heap.size) := by omega
  have hn3 : ¬ (w3.heap.size = w.heap.size + 1 + 1) := by omega
  have hn4 : ¬ (w.heap.size + 1 + 1 = w3.heap.size) := by omega
  have hn5 : ¬ (w3.heap.size = w.heap.size) := by omega
  have hn6 : ¬ (w.heap.size = w3.heap.size) := by omega
  clear k2 k4 k5 hcz0 hcz1
  go_region_with (go_at_call 23; refine (HMD.out _ A3 c3 (below_drew (below_alloc (below_then HBW.out HSZ.out HB3.out) _)) hl3 (Kd.C_below HC3.out (below_drew (below_alloc (Below.refl _ _) _)))).mono ?_; rintro e w4 ⟨v1, rfl, hS, hb4⟩; obtain ⟨A5, c5, rfl⟩ := Kd.R_slice (Kd.S_R hS); have HS := Aside0.mk hS; have HB4 := Aside0.mk (below_then (below_drew (below_alloc HB3.out _)) (below_drew (below_alloc HB3.out _)).size hb4); have HCG4 := Aside0.mk (Kd.F_below (Kd.F_below HCG.out (below_drew (below_alloc (Below.refl _ _) _))) hb4); obtain ⟨k2, k4, k5⟩ := HCB.out _ HB4.out; have K4' := Aside0.mk k4; have K5' := Aside0.mk k5; have h40 : w4.cell? ⟨w.heap.size + 1, 0, none⟩ = some (.int .i64 0) := blk_cell k4 0; have h41 : w4.cell? ⟨w.heap.size + 1, 1, none⟩ = some (.slice none 0 0) := blk_cell k4 1; have f40 := blk_frozen k4 0; have f41 := blk_frozen k4 1; have h50 : w4.cell? ⟨w.heap.size + 1 + 1, 0, none⟩ = some (.int .i64 0) := blk_cell k5 0; have h51 : w4.cell? ⟨w.heap.size + 1 + 1, 1, none⟩ = some (.slice none 0 0) := blk_cell k5 1; have f50 := blk_frozen k5 0; have f51 := blk_frozen k5 1; have h20 : w4.cell? ⟨w.heap.size, 0, none⟩ = some (.int .i64 v) := blk_cell k2 0; have h21 : w4.cell? ⟨w.heap.size, 1, none⟩ = some (.slice A n c) := blk_cell k2 1; have hq0 := pw_cell_below hb4 (show World.cell? _ ⟨w3.heap.size, 0, none⟩ = some (.int .i64 r2) by show (w3.alloc _).cell? _ = _; rw [cell_new]; rfl); have hq1 := pw_cell_below hb4 (show World.cell? _ ⟨w3.heap.size, 1, none⟩ = some (.slice G q3 cg) by show (w3.alloc _).cell? _ = _; rw [cell_new]; rfl); clear hS hb4 k2 k4 k5)
  all_goals go_wp2
  all_goals (simp only [Act.put, List.getElem_toArray, List.getElem_cons_zero, List.getElem_cons_succ, List.setIfInBounds_toArray, List.set_cons_zero, List.set_cons_succ])
  all_goals (have HE := Aside0.mk (out_end K4'.out K5'.out (by omega) (.int .i64 v) (.slice A5 r1.length c5) (.int .i64 r2) (.slice G q3 cg)); have HSB := Aside0.mk HB1.out.size; have HSB2 := Aside0.mk HB2.out.size; have HWZ := Aside0.mk (show w0.heap.size = w.heap.size + 3 by rw [HW0.out]; simp))
  all_goals generalize hWF : World.setCell _ _ (Value.slice G q3 cg) = WF at HE ⊢
  all_goals clear hWF
  all_goals refine bodyPost_ret (results_list (rs := [.cell 4 24, .cell 5 29, .tmp 6]) rfl (by simp) (.cell (w.heap.size + 1) 24 #[.int .i64 v, .slice A5 r1.length c5] (0, 0) _ rfl HE.out.1 Try.underlying24 rfl (by kernel_rfl) (.cell (w.heap.size + 1 + 1) 29 #[.int .i64 r2, .slice G q3 cg] (0, 0) _ rfl HE.out.2.1 Try.underlying29 rfl (by kernel_rfl) (.tmp .nil)))) rfl ?_
  all_goals exact ⟨_, G, cg, rfl, Kd.S_lower (Kd.S_mono (Kd.S_step (Kd.S_bound HS.out) (fun k hk _ => HE.out.2.2.1 k (by have h1 := hk.2.1; have h2 : w3.heap.size ≤ k := Nat.le_trans (below_alloc (Below.refl w3.heap.size w3) _).size h1; omega) (by have h1 := hk.2.1; have h2 : w3.heap.size ≤ k := Nat.le_trans (below_alloc (Below.refl w3.heap.size w3) _).size h1; omega))) (fun k hk => trivial)) (Nat.le_trans (by omega : w.heap.size ≤ w3.heap.size) (below_alloc (Below.refl w3.heap.size w3) _).size), by have := Kd.F_now (Kd.F_step HCG4.out (fun k hk _ => HE.out.2.2.1 k (by have h1 := HSB.out; have h2 := HSB2.out; have h3 := HWZ.out; omega) (by have h1 := HSB.out; have h2 := HSB2.out; have h3 := HWZ.out; omega))); exact this, hlg, (below_then HBW.out HSZ.out HB4.out).trans (HE.out.2.2.2 w.heap.size (by omega) (by omega))⟩

end Go.Proofs.Ythhmjfjkbmmcaaa
/- The fixed whole: works. -/
namespace Go.Proofs.Ythhmjfjkbmmcaaa
open Go.RowKit Go.Proofs.YthhmjfjkbmmcaaaW.PrintWords Go.Proofs.YthhmjfjkbmmcaaaW.PrintLast Go.Proofs.YthhmjfjkbmmcaaaW.PrintMore
open GCS
set_option linter.unusedVariables false
set_option linter.unusedSimpArgs false

theorem srt2 {a b : Int} (h : ltB b a = false) : srt [a, b] = [a, b] := by
  unfold srt
  simp [List.mergeSort, List.MergeSort.Internal.splitInTwo, List.merge, h]
theorem nrm12 : nrm [1, 2] = ([1, 2], true) := by
  unfold nrm
  rw [srt2 (by decide)]
  decide
theorem nrm13 : nrm [-1, 3] = ([-1, 3], true) := by
  unfold nrm
  rw [srt2 (by decide)]
  decide
theorem nrm23 : nrm [2, 3] = ([2, 3], true) := by
  unfold nrm
  rw [srt2 (by decide)]
  decide
theorem tidy0 : tidyv [[1, 2], [-1, 3], [2, 3]] = [[1, 2], [-1, 3], [2, 3]] := by
  simp [tidyv, tidyStep, nrm12, nrm13, nrm23]
theorem res0 : resv [1, 2] [-1, 3] 1 = ([2, 3], 0) := by
  have hp : pairv [1, 2] [-1, 3] = ([1, 2], [-1, 3], 0) := by simp [pairv, nrm12, nrm13]
  unfold resv
  rw [hp]
  have h1 : dropv [1, 2] 1 = [2] := by decide
  have h2 : dropv [-1, 3] (-1) = [3] := by decide
  have h3 : bsHas [1, 2] 1 = true := by decide
  have h4 : bsHas [-1, 3] (-1) = true := by decide
  simp only [h1, h2, h3, h4]
  simp [nrm23]

theorem tidy1 : clean_tidy.f [[2, 3], [2, 3]] = some [[2, 3]] := by
  unfold clean_tidy.f
  rw [if_pos (by decide)]
  simp [tidyv, tidyStep, nrm23]
theorem resf0 : lits_Resolve.f [1, 2] [-1, 3] 1 = some ([2, 3], 0) := by
  unfold lits_Resolve.f
  rw [if_pos (by decide), res0]
theorem out0 : clean_out.f 10 [[1, 2], [-1, 3], [2, 3]] 1 = some ([[2, 3]], 1, [[1, 2], [-1, 3]], true) := by
  simp (decide := true) [clean_out.f, clean_out.l0, clean_out.l1, clean_out.l2, clean_has.f, has, api_Clause_int.f, rd_L1, resf0, tidy1, wrap64]

theorem chk0 : chk 3 [[1, 2], [-1, 3], [2, 3]] = 0 := by decide
theorem right0 : rightFrom 3 1 [[1, 2], [-1, 3]] = true := by decide
theorem needs0 : needsv 1 [true, true, false] [[1, 2], [-1, 3]] = false := by decide

/-- Three rows of numbers in line. -/
theorem C_ints2 {w : World} {g : Nat} {a b : Int} {t : TypeId} (h : w.heap[g]? = some (.cells #[.int .i64 a, .int .i64 b] t (0, 0))) : (Kd.int .i64).C w (some ⟨g, 0, none⟩) 2 [a, b] := by
  refine ⟨rfl, by omega, fun _ => ⟨_, rfl, fun j p hj => ?_⟩⟩
  match j, hj with
  | 0, hj => cases hj; exact ⟨[.int .i64 a], rfl, rfl, fun i u hu => by
      match i, hu with
      | 0, hu => cases hu; exact blk_cell h 0⟩
  | 1, hj => cases hj; exact ⟨[.int .i64 b], rfl, rfl, fun i u hu => by
      match i, hu with
      | 0, hu => cases hu; exact blk_cell h 1⟩

theorem blk_new' (w : World) (o : Obj) (g : Nat) (hg : g = w.heap.size) : (w.alloc o).heap[g]? = some o := by rw [hg]; exact heap_alloc_new w o
theorem C_rows3 {w : World} {g g0 g1 g2 : Nat} {x y z : List Int} {t : TypeId} (h : w.heap[g]? = some (.cells #[.slice (some ⟨g0, 0, none⟩) 2 2, .slice (some ⟨g1, 0, none⟩) 2 2, .slice (some ⟨g2, 0, none⟩) 2 2] t (0, 0))) (h0 : (Kd.int .i64).C w (some ⟨g0, 0, none⟩) 2 x) (h1 : (Kd.int .i64).C w (some ⟨g1, 0, none⟩) 2 y) (h2 : (Kd.int .i64).C w (some ⟨g2, 0, none⟩) 2 z) : Kd.C kClause w (some ⟨g, 0, none⟩) 3 [x, y, z] := by
  refine ⟨rfl, by omega, fun _ => ⟨_, rfl, fun j p hj => ?_⟩⟩
  have e0 := h0.1
  have e1 := h1.1
  have e2 := h2.1
  match j, hj with
  | 0, hj => cases hj; exact ⟨[.slice (some ⟨g0, 0, none⟩) 2 2], rfl, ⟨_, 2, by rw [e0], by omega, by rw [e0]; exact h0⟩, fun i u hu => by
      match i, hu with
      | 0, hu => cases hu; exact blk_cell h 0⟩
  | 1, hj => cases hj; exact ⟨[.slice (some ⟨g1, 0, none⟩) 2 2], rfl, ⟨_, 2, by rw [e1], by omega, by rw [e1]; exact h1⟩, fun i u hu => by
      match i, hu with
      | 0, hu => cases hu; exact blk_cell h 1⟩
  | 2, hj => cases hj; exact ⟨[.slice (some ⟨g2, 0, none⟩) 2 2], rfl, ⟨_, 2, by rw [e2], by omega, by rw [e2]; exact h2⟩, fun i u hu => by
      match i, hu with
      | 0, hu => cases hu; exact blk_cell h 2⟩

theorem C_bools3 {w : World} {g : Nat} {a b c : Bool} {t : TypeId} (h : w.heap[g]? = some (.cells #[.bool a, .bool b, .bool c] t (0, 0))) : Kd.bool.C w (some ⟨g, 0, none⟩) 3 [a, b, c] := by
  refine ⟨rfl, by omega, fun _ => ⟨_, rfl, fun j p hj => ?_⟩⟩
  match j, hj with
  | 0, hj => cases hj; exact ⟨[.bool a], rfl, rfl, fun i u hu => by
      match i, hu with
      | 0, hu => cases hu; exact blk_cell h 0⟩
  | 1, hj => cases hj; exact ⟨[.bool b], rfl, rfl, fun i u hu => by
      match i, hu with
      | 0, hu => cases hu; exact blk_cell h 1⟩
  | 2, hj => cases hj; exact ⟨[.bool c], rfl, rfl, fun i u hu => by
      match i, hu with
      | 0, hu => cases hu; exact blk_cell h 2⟩
theorem inM0 : ∀ c ∈ ([[1, 2], [-1, 3]] : List (List Int)), ∀ x ∈ c, InM [true, true, false] x := by
  intro c hc x hx
  simp only [List.mem_cons, List.not_mem_nil, or_false] at hc
  rcases hc with rfl | rfl <;> simp only [List.mem_cons, List.not_mem_nil, or_false] at hx <;> rcases hx with rfl | rfl <;> (refine ⟨by omega, by omega, by omega, ?_⟩; decide)
theorem back0 (w1 : World) (b : Nat) (G : Option Addr) (cg : Nat) (o1 o2 : Obj) (hf : Kd.C kClause w1 (some ⟨b, 0, none⟩) 3 [[1, 2], [-1, 3], [2, 3]]) (hG : Kd.C kClause w1 G 2 [[1, 2], [-1, 3]]) :
    Calls Try.prog 18 #[.agg #[.int .i64 3, .slice (some ⟨b, 0, none⟩) 3 3], .slice (some ⟨w1.heap.size + 1 + 1, 0, none⟩) 1 1, .slice (some ⟨w1.heap.size + 1 + 1 + 1, 0, none⟩) 3 3] ((((w1.alloc o1).alloc o2).alloc (.cells #[.int .i64 1, .slice G 2 cg] 29)).alloc (.cells #[.bool true, .bool true, .bool false] 4)) fun e w' => ∃ g cap, e = .returned (.tuple #[.slice (some ⟨g, 0, none⟩) 3 cap, .int .i64 0]) ∧ w'.cell? ⟨g, 0, none⟩ = some (.bool false) ∧ w'.cell? ⟨g, 1, none⟩ = some (.bool true) ∧ Below (World.heap ((((w1.alloc o1).alloc o2).alloc (.cells #[.int .i64 1, .slice G 2 cg] 29)).alloc (.cells #[.bool true, .bool true, .bool false] 4))).size ((((w1.alloc o1).alloc o2).alloc (.cells #[.int .i64 1, .slice G 2 cg] 29)).alloc (.cells #[.bool true, .bool true, .bool false] 4)) w' := by
  have hB := below_alloc (below_alloc (below_alloc (below_alloc (Below.refl w1.heap.size w1) o1) o2) (.cells #[.int .i64 1, .slice G 2 cg] 29)) (.cells #[.bool true, .bool true, .bool false] 4)
  have h := back_calls 3 1 (some ⟨b, 0, none⟩) G 3 cg (w1.heap.size + 1 + 1) (w1.heap.size + 1 + 1 + 1) 1 3 [[1, 2], [-1, 3], [2, 3]] [[1, 2], [-1, 3]] [true, true, false] _ (Kd.C_below hf hB) chk0 (blk_alloc (blk_new' _ _ _ (by simp)) _) (Kd.C_below hG hB) (C_bools3 (blk_new' _ _ _ (by simp))) rfl (by omega) (by omega) (by omega) right0 (by simp) (by simp) (by simp) inM0
  refine h.mono ?_
  rintro e w' ⟨v, rfl, ho, hb⟩
  obtain ⟨g, cap, rfl, hgb, _⟩ := ho.form (by simp)
  refine ⟨g, cap, rfl, ?_, ?_, hb⟩
  · have := ho.cells (g := g) rfl 0 (.bool false) (by rw [needs0]; rfl)
    rwa [add_plain] at this
  · have := ho.cells (g := g) rfl 1 (.bool true) (by rw [needs0]; rfl)
    rwa [add_plain] at this

set_option maxRecDepth 100000 in
set_option maxHeartbeats 8000000 in
theorem works_calls (w : World) : Calls Try.prog 6 #[] w fun e w' => e = .returned (.bool true) ∧ Below w.heap.size w w' := by
  obtain ⟨W0, hW0⟩ : ∃ W0, W0 = ((((w.alloc (.cells #[.int .i64 1, .int .i64 2] 3)).alloc (.cells #[.int .i64 (-1), .int .i64 3] 3)).alloc (.cells #[.int .i64 2, .int .i64 3] 3)).alloc (.cells #[.slice (some ⟨w.heap.size, 0, none⟩) 2 2, .slice (some ⟨w.heap.size + 1, 0, none⟩) 2 2, .slice (some ⟨w.heap.size + 1 + 1, 0, none⟩) 2 2] 43)).alloc (.cells #[.int .i64 3, .slice (some ⟨w.heap.size + 1 + 1 + 1, 0, none⟩) 3 3] 24) := ⟨_, rfl⟩
  have hf : Kd.C kClause W0 (some ⟨w.heap.size + 1 + 1 + 1, 0, none⟩) 3 [[1, 2], [-1, 3], [2, 3]] := by
    rw [hW0]
    refine C_rows3 (t := 43) (blk_alloc (blk_new' _ _ _ (by simp)) _) (C_ints2 (t := 3) ?_) (C_ints2 (t := 3) ?_) (C_ints2 (t := 3) ?_)
    · exact blk_alloc (blk_alloc (blk_alloc (blk_alloc (blk_new' _ _ _ rfl) _) _) _) _
    · exact blk_alloc (blk_alloc (blk_alloc (blk_new' _ _ _ (by simp)) _) _) _
    · exact blk_alloc (blk_alloc (blk_new' _ _ _ (by simp)) _) _
  have hbx : W0.heap[w.heap.size + 1 + 1 + 1 + 1]? = some (.cells #[.int .i64 3, .slice (some ⟨w.heap.size + 1 + 1 + 1, 0, none⟩) 3 3] 24 (0, 0)) := by
    rw [hW0]; exact blk_new' _ _ _ (by simp)
  have hB0 : Below w.heap.size w W0 := by rw [hW0]; exact below_alloc (below_alloc (below_alloc (below_alloc (below_alloc (Below.refl _ _) _) _) _) _) _
  have HO := Aside0.mk (out_calls 10 3 1 (some ⟨w.heap.size + 1 + 1 + 1, 0, none⟩) 3 [[1, 2], [-1, 3], [2, 3]] [[2, 3]] [[1, 2], [-1, 3]] 1 W0 hf (by simp) chk0 (by omega) (by omega) (by rw [tidy0]; exact out0) (by simp) (by simp))
  have HF := Aside0.mk hf
  have HB0 := Aside0.mk hB0
  have HBX := Aside0.mk hbx
  have HW := Aside0.mk hW0
  clear hf hbx hB0 hW0
  go_enter Try.func6, Try.ntmps6
  go_wp2_with (first | (go_at_call 8; rw [← HW.out]; refine HO.out.mono ?_; rintro e w1 ⟨v1, G, cg, rfl, hS, hCG, hlg, hb1⟩; obtain ⟨A1, c1, rfl⟩ := Kd.R_slice (Kd.S_R hS); have HB1 := Aside0.mk hb1; have HC1 := Aside0.mk (Kd.R_reads' (Kd.S_R hS)).2.2; have HCG := Aside0.mk hCG; have hfb := blk_below HBX.out hb1; have hf0 := cell_alloc_keep (o := .cells #[.int .i64 1, .slice G 2 cg] 29) (cell_alloc_keep (o := .cells #[.int .i64 3, .slice A1 1 c1] 24) (show w1.cell? ⟨w.heap.size + 1 + 1 + 1 + 1, 0, none⟩ = some (.int .i64 3) from blk_cell hfb 0)); have hf1 := cell_alloc_keep (o := .cells #[.int .i64 1, .slice G 2 cg] 29) (cell_alloc_keep (o := .cells #[.int .i64 3, .slice A1 1 c1] 24) (show w1.cell? ⟨w.heap.size + 1 + 1 + 1 + 1, 1, none⟩ = some (.slice (some ⟨w.heap.size + 1 + 1 + 1, 0, none⟩) 3 3) from blk_cell hfb 1)); have hk3 : ((w1.alloc (.cells #[.int .i64 3, .slice A1 1 c1] 24)).alloc (.cells #[.int .i64 1, .slice G 2 cg] 29)).heap[w1.heap.size + 1]? = some (.cells #[.int .i64 1, .slice G 2 cg] 29 (0, 0)) := heap_new2 _ _ _; have hx0 : ((w1.alloc (.cells #[.int .i64 3, .slice A1 1 c1] 24)).alloc (.cells #[.int .i64 1, .slice G 2 cg] 29)).cell? ⟨w1.heap.size + 1, 0, none⟩ = some (.int .i64 1) := blk_cell hk3 0; have hx1 : ((w1.alloc (.cells #[.int .i64 3, .slice A1 1 c1] 24)).alloc (.cells #[.int .i64 1, .slice G 2 cg] 29)).cell? ⟨w1.heap.size + 1, 1, none⟩ = some (.slice G 2 cg) := blk_cell hk3 1; clear hS hCG hb1 hfb hk3) | (go_at_call 18; refine (back0 w1 (w.heap.size + 1 + 1 + 1) G cg _ _ (Kd.C_below HF.out HB1.out) HCG.out).mono ?_; rintro e w5 ⟨g, cap, rfl, hm0, hm1, hb5⟩; have hBA := below_alloc (below_alloc (below_alloc (below_alloc (Below.refl w1.heap.size w1) (.cells #[.int .i64 3, .slice A1 1 c1] 24)) (.cells #[.int .i64 1, .slice G 2 cg] 29)) (.cells #[.int .i64 1, .slice G 2 cg] 29)) (.cells #[.bool true, .bool true, .bool false] 4); have hb15 := below_then hBA hBA.size hb5; have HB5 := Aside0.mk hb15; have hk2 := blk_below (blk_alloc (blk_alloc (blk_alloc (blk_new w1 (.cells #[.int .i64 3, .slice A1 1 c1] 24)) (.cells #[.int .i64 1, .slice G 2 cg] 29)) (.cells #[.int .i64 1, .slice G 2 cg] 29)) (.cells #[.bool true, .bool true, .bool false] 4)) hb5; have hk3 := blk_below (blk_alloc (blk_alloc (heap_new2 w1 (.cells #[.int .i64 3, .slice A1 1 c1] 24) (.cells #[.int .i64 1, .slice G 2 cg] 29)) (.cells #[.int .i64 1, .slice G 2 cg] 29)) (.cells #[.bool true, .bool true, .bool false] 4)) hb5; have hy0 : w5.cell? ⟨w1.heap.size, 0, none⟩ = some (.int .i64 3) := blk_cell hk2 0; have hy1 : w5.cell? ⟨w1.heap.size, 1, none⟩ = some (.slice A1 1 c1) := blk_cell hk2 1; have hz0 : w5.cell? ⟨w1.heap.size + 1, 0, none⟩ = some (.int .i64 1) := blk_cell hk3 0; have hz1 : w5.cell? ⟨w1.heap.size + 1, 1, none⟩ = some (.slice G 2 cg) := blk_cell hk3 1; obtain ⟨a1, B0, cb0, l0, ea1, el0, hca1, _, _⟩ := at_rows (Kd.C_below HC1.out hb15) 0 (by simp); cases ea1; have el1 : l0 = [2, 3] := (Option.some.inj el0).symm; subst el1; have hca : w5.cell? a1 = some (.slice B0 2 cb0) := hca1; clear hca1 hk2 hk3 hb5 hBA hb15 el0))
  go_ret
  exact ⟨rfl, below_then HB0.out HB0.out.size (below_then HB1.out HB1.out.size HB5.out)⟩

end Go.Proofs.Ythhmjfjkbmmcaaa
-- written by a program of this session's own (gprint.py), after the kit's print
namespace Go.Proofs.Ythhmjfjkbmmcaaa.GCS
open Go.RowKit Go.Proofs.YthhmjfjkbmmcaaaW.PrintWords Go.Proofs.YthhmjfjkbmmcaaaW.PrintLast Go.Proofs.YthhmjfjkbmmcaaaW.PrintMore
attribute [local go_sem] max2_int min2_int max_two min_two max_three min_three max_four min_four   -- for this text's walks alone
set_option linter.unusedVariables false
set_option linter.unusedSimpArgs false

/-! ### trestlelaw19_large: function 5 -/
def trestlelaw19_large.l0 : Nat → Int → Int → Int → List (List Int) → Option (Bool)
  | 0, _, _, _, _ => none
  | k + 1, x3, x4, x102000, x102001 => if x4 < (x102001.length : Int) then (if 0 ≤ x4 then (trestlelaw19_large.l0 k (wrap64 (x3 + ((rd_L1 x102001 x4).length : Int))) (wrap64 (x4 + 1)) x102000 x102001) else (none)) else (if (x102001.length : Int) > 120 then (some true) else (some (decide (x3 > 20000))))
def trestlelaw19_large.f (k : Nat) (a0_0 : Int) (l0_1 : List (List Int)) : Option (Bool) := trestlelaw19_large.l0 k 0 0 a0_0 l0_1
theorem trestlelaw19_large.mono_l : ∀ k, (∀ y0 y1 y2 y3, LeO (trestlelaw19_large.l0 k y0 y1 y2 y3) (trestlelaw19_large.l0 (k + 1) y0 y1 y2 y3))
  | 0 => fun _ _ _ _ r h => by simp [trestlelaw19_large.l0] at h
  | k + 1 => by
    have ih0 := trestlelaw19_large.mono_l k
    · intro y0 y1 y2 y3
      unfold trestlelaw19_large.l0
      repeat' first
      | (with_reducible exact ih0 _ _ _ _)
      | (with_reducible exact LeO.refl _)
      | (with_reducible exact LeO.none _)
      | (with_reducible refine LeO.ite ?_ ?_)
      | (with_reducible refine LeO.bind ?_ (fun _ => ?_))
      | exact ih0 _ _ _ _
      | exact LeO.none _
      | refine LeO.ite ?_ ?_
      | refine LeO.bind ?_ (fun _ => ?_)
theorem trestlelaw19_large.mono : ∀ a0 a1 k, LeO (trestlelaw19_large.f k a0 a1) (trestlelaw19_large.f (k + 1) a0 a1) := by
  intro a0 a1 k
  have ih0 := trestlelaw19_large.mono_l k
  unfold trestlelaw19_large.f
  repeat' first
      | (with_reducible exact ih0 _ _ _ _)
      | (with_reducible exact LeO.refl _)
      | (with_reducible exact LeO.none _)
      | (with_reducible refine LeO.ite ?_ ?_)
      | (with_reducible refine LeO.bind ?_ (fun _ => ?_))
      | exact ih0 _ _ _ _
      | exact LeO.none _
      | refine LeO.ite ?_ ?_
      | refine LeO.bind ?_ (fun _ => ?_)
set_option maxHeartbeats 8000000 in
set_option maxRecDepth 100000 in
theorem trestlelaw19_large.calls (k : Nat) (a0_0 : Int) (A0_1 : Option Addr) (c0_1 : Nat) (l0_1 : List (List Int)) (r : Bool) (w : World) (hr0_1 : Kd.C (Kd.slice 3 (Kd.int .i64)) w A0_1 l0_1.length l0_1) (hc0_1 : l0_1.length ≤ c0_1) (h : trestlelaw19_large.f k a0_0 l0_1 = some r) :
    Calls Try.prog 5 #[.agg #[.int .i64 a0_0, .slice A0_1 l0_1.length c0_1]] w fun e w' => e = .returned (.bool r) ∧ Below w.heap.size w w' := by
  have hu24 := Try.underlying24
  have HR0_1 := Aside0.mk hr0_1
  have HC0_1 := Aside0.mk hc0_1
  clear hr0_1 hc0_1
  have HB := Aside0.mk (Below.refl w.heap.size w)
  have H : (trestlelaw19_large.l0 k 0 0 a0_0 l0_1) = some r := h
  clear h
  have H' := Aside0.mk H
  clear H
  go_enter Try.func5, Try.ntmps5
  go_wp2_with (first | ((with_reducible refine gate_dst (N := 1) rfl ?_); refine box_event ?hg (N := 1) ?hd (cs := #[.int .i64 a0_0, .slice A0_1 l0_1.length c0_1]) (t := 24) ?hr ?_; (case hd => rfl); (case hg => rfl); (case hr => first | (go_simp; done) | (go_simp; rfl)); intro gb101 hg w2 hbox hb; have n0_ := Aside0.mk (below_step (by repeat (first | (with_reducible first | exact HB.out | apply below_alloc | apply pw_below_drewN | apply below_drew1) | exact HB.out)) hb); have n1_ := Aside0.mk (hbox); have n2_ := Aside0.mk ((by rw [hg]; exact (below_size (by repeat (first | (with_reducible first | exact HB.out | apply below_alloc | apply pw_below_drewN | apply below_drew1) | exact HB.out))) : w.heap.size ≤ gb101)); have n3_ := Aside0.mk ((by rw [hg]; exact (below_size (by repeat (first | (with_reducible first | exact HB.out | apply below_alloc | apply pw_below_drewN | apply below_drew1) | exact HB.out))) : w.heap.size ≤ gb101)); clear HB; have HB := n0_; have BK101 := n1_; have GW101 := n2_; have GE101 := n3_; clear n0_ n1_ n2_ n3_; clear hb hbox hg))
  go_loopg [3, 4] k (fun kq v3 v4 w' => ∃ (x3_1 : Int) (x4_1 : Int), v3 = .int .i64 x3_1 ∧ v4 = .int .i64 x4_1 ∧ Aside0 (trestlelaw19_large.l0 kq x3_1 x4_1 a0_0 l0_1 = some r) ∧ Aside0 (kq ≤ k) ∧ Aside0 (w'.heap[gb101]? = some (.cells #[.int .i64 a0_0, (.slice A0_1 l0_1.length c0_1)] 24 (0, 0))) ∧ Aside0 (Below w.heap.size w w'))
  case atStart => exact ⟨(0), (0), (by first | rfl | (simp; done) | (simp [*]; done)), (by first | rfl | (simp; done) | (simp [*]; done)), H', ⟨Nat.le_refl _⟩, ⟨by (with_reducible repeat (first | refine blk_drewN ?_ _ | refine blk_drew ?_ | refine blk_alloc ?_ _)); exact BK101.out⟩, ⟨by repeat (first | (with_reducible first | exact HB.out | apply below_alloc | apply pw_below_drewN | apply below_drew1 | refine below_set ?_ GE101.out) | exact HB.out)⟩⟩
  case round =>
    clear H'
    try clear p2
    obtain ⟨x3_1, x4_1, rfl, rfl, HA, HK1, BK101, HB⟩ := hrel
    cases gk with
    | zero => exact absurd HA.out (by simp [trestlelaw19_large.l0])
    | succ k1 =>
      have H := HA.out
      clear HA
      simp only [trestlelaw19_large.l0] at H
      by_cases c3 : x4_1 < (l0_1.length : Int)
      · rw [if_pos c3] at H
        have c3b0 : decide (x4_1 < (l0_1.length : Int)) = true := decide_eq_true c3
        clear c3
        by_cases c4 : 0 ≤ x4_1
        · rw [if_pos c4] at H
          have c4b0 : decide (0 ≤ x4_1) = true := decide_eq_true c4
          clear c4
          have H' := Aside0.mk H
          clear H
          have hcz5_0 : wr.cell? ⟨gb101, 0, none⟩ = some (.int .i64 a0_0) := (blk_cell BK101.out 0).trans rfl
          have hcz5_1 : wr.cell? ⟨gb101, 1, none⟩ = some (.slice A0_1 l0_1.length c0_1) := (blk_cell BK101.out 1).trans rfl
          have hfz5_0 := blk_frozen BK101.out 0
          have hfz5_1 := blk_frozen BK101.out 1
          have p102 : 0 ≤ (x4_1 : Int) := of_decide_eq_true (by first | (with_reducible assumption) | assumption)
          have q102 : x4_1 < (l0_1.length : Int) := of_decide_eq_true (by first | (with_reducible assumption) | assumption)
          obtain ⟨ad102, A102_0, c102_0, e102, hx102_0, hl102_0, hi102_0⟩ := at_L1 HR0_1.out x4_1 p102 q102
          cases e102
          replace hx102_0 := (HB.out.cell (World.block_lt_of_cell? w _ hx102_0)).trans hx102_0
          have HR102_0 := Aside0.mk hi102_0
          have HC102_0 := Aside0.mk hl102_0
          clear hi102_0 hl102_0
          replace p102 := eq_true p102
          replace q102 := eq_true q102
          go_wp2
          go_roundg k1
          case measure => have := HK1.out; omega
          case rel => exact ⟨(wrap64 (x3_1 + ((rd_L1 l0_1 x4_1).length : Int))), (wrap64 (x4_1 + 1)), (by first | rfl | (simp; done) | (simp [*]; done)), (by first | rfl | (simp; done) | (simp [*]; done)), H', ⟨by have := HK1.out; omega⟩, ⟨by (with_reducible repeat (first | refine blk_drewN ?_ _ | refine blk_drew ?_ | refine blk_alloc ?_ _)); exact BK101.out⟩, ⟨by repeat (first | (with_reducible first | exact HB.out | apply below_alloc | apply pw_below_drewN | apply below_drew1 | refine below_set ?_ GE101.out) | exact HB.out)⟩⟩
        · rw [if_neg c4] at H
          exact absurd H (by simp)
      · rw [if_neg c3] at H
        have c3b0 : decide (x4_1 < (l0_1.length : Int)) = false := decide_eq_false c3
        clear c3
        by_cases c6 : (l0_1.length : Int) > 120
        · rw [if_pos c6] at H
          have c6b0 : decide (120 < (l0_1.length : Int)) = true := decide_eq_true c6
          have c6b1 : decide (120 < l0_1.length) = true := decide_eq_true (by omega)
          clear c6
          obtain rfl := Option.some.inj H
          have hcz7_0 : wr.cell? ⟨gb101, 0, none⟩ = some (.int .i64 a0_0) := (blk_cell BK101.out 0).trans rfl
          have hcz7_1 : wr.cell? ⟨gb101, 1, none⟩ = some (.slice A0_1 l0_1.length c0_1) := (blk_cell BK101.out 1).trans rfl
          have hfz7_0 := blk_frozen BK101.out 0
          have hfz7_1 := blk_frozen BK101.out 1
          go_wp2
          go_ret
          exact ⟨by first | rfl | (simp [errW_none, errW_some] <;> rfl) | (simp [*, errW_none, errW_some] <;> rfl), by repeat (first | (with_reducible first | exact HB.out | apply below_alloc | apply pw_below_drewN | apply below_drew1 | refine below_set ?_ GE101.out) | exact HB.out)⟩
        · rw [if_neg c6] at H
          have c6b0 : decide (120 < (l0_1.length : Int)) = false := decide_eq_false c6
          have c6b1 : decide (120 < l0_1.length) = false := decide_eq_false (by omega)
          clear c6
          obtain rfl := Option.some.inj H
          have hcz8_0 : wr.cell? ⟨gb101, 0, none⟩ = some (.int .i64 a0_0) := (blk_cell BK101.out 0).trans rfl
          have hcz8_1 : wr.cell? ⟨gb101, 1, none⟩ = some (.slice A0_1 l0_1.length c0_1) := (blk_cell BK101.out 1).trans rfl
          have hfz8_0 := blk_frozen BK101.out 0
          have hfz8_1 := blk_frozen BK101.out 1
          go_wp2
          go_ret
          exact ⟨by first | rfl | (simp [errW_none, errW_some] <;> rfl) | (simp [*, errW_none, errW_some] <;> rfl), by repeat (first | (with_reducible first | exact HB.out | apply below_alloc | apply pw_below_drewN | apply below_drew1 | refine below_set ?_ GE101.out) | exact HB.out)⟩

end Go.Proofs.Ythhmjfjkbmmcaaa.GCS
-- written by a program of this session's own (gprint.py), after the kit's print
namespace Go.Proofs.Ythhmjfjkbmmcaaa.GCS
open Go.RowKit Go.Proofs.YthhmjfjkbmmcaaaW.PrintWords Go.Proofs.YthhmjfjkbmmcaaaW.PrintLast Go.Proofs.YthhmjfjkbmmcaaaW.PrintMore
attribute [local go_sem] max2_int min2_int max_two min_two max_three min_three max_four min_four   -- for this text's walks alone
set_option linter.unusedVariables false
set_option linter.unusedSimpArgs false

/-! ### trestlebook_SameInts: function 50 -/
def trestlebook_SameInts.l0 : Nat → List Int → List Int → Int → Option (Bool)
  | 0, _, _, _ => none
  | k + 1, x0, x1, x5 => if x5 < (x0.length : Int) then (if 0 ≤ x5 then (if x5 < (x1.length : Int) then (if (rd x0 x5) = (rd x1 x5) then (trestlebook_SameInts.l0 k x0 x1 (wrap64 (x5 + 1))) else (some false)) else (none)) else (none)) else (some true)
def trestlebook_SameInts.f (k : Nat) (l0 : List Int) (l1 : List Int) : Option (Bool) := if (l0.length : Int) = (l1.length : Int) then (trestlebook_SameInts.l0 k l0 l1 0) else (some false)
theorem trestlebook_SameInts.mono_l : ∀ k, (∀ y0 y1 y2, LeO (trestlebook_SameInts.l0 k y0 y1 y2) (trestlebook_SameInts.l0 (k + 1) y0 y1 y2))
  | 0 => fun _ _ _ r h => by simp [trestlebook_SameInts.l0] at h
  | k + 1 => by
    have ih0 := trestlebook_SameInts.mono_l k
    · intro y0 y1 y2
      unfold trestlebook_SameInts.l0
      repeat' first
      | (with_reducible exact ih0 _ _ _)
      | (with_reducible exact LeO.refl _)
      | (with_reducible exact LeO.none _)
      | (with_reducible refine LeO.ite ?_ ?_)
      | (with_reducible refine LeO.bind ?_ (fun _ => ?_))
      | exact ih0 _ _ _
      | exact LeO.none _
      | refine LeO.ite ?_ ?_
      | refine LeO.bind ?_ (fun _ => ?_)
theorem trestlebook_SameInts.mono : ∀ a0 a1 k, LeO (trestlebook_SameInts.f k a0 a1) (trestlebook_SameInts.f (k + 1) a0 a1) := by
  intro a0 a1 k
  have ih0 := trestlebook_SameInts.mono_l k
  unfold trestlebook_SameInts.f
  repeat' first
      | (with_reducible exact ih0 _ _ _)
      | (with_reducible exact LeO.refl _)
      | (with_reducible exact LeO.none _)
      | (with_reducible refine LeO.ite ?_ ?_)
      | (with_reducible refine LeO.bind ?_ (fun _ => ?_))
      | exact ih0 _ _ _
      | exact LeO.none _
      | refine LeO.ite ?_ ?_
      | refine LeO.bind ?_ (fun _ => ?_)
set_option maxHeartbeats 8000000 in
set_option maxRecDepth 100000 in
theorem trestlebook_SameInts.calls (k : Nat) (A0 : Option Addr) (c0 : Nat) (l0 : List Int) (A1 : Option Addr) (c1 : Nat) (l1 : List Int) (r : Bool) (w : World) (hr0 : Kd.C (Kd.int .i64) w A0 l0.length l0) (hc0 : l0.length ≤ c0) (hr1 : Kd.C (Kd.int .i64) w A1 l1.length l1) (hc1 : l1.length ≤ c1) (h : trestlebook_SameInts.f k l0 l1 = some r) :
    Calls Try.prog 50 #[.slice A0 l0.length c0, .slice A1 l1.length c1] w fun e w' => e = .returned (.bool r) ∧ Drawn0 w w' := by
  have HR0 := Aside0.mk hr0
  have HC0 := Aside0.mk hc0
  clear hr0 hc0
  have HR1 := Aside0.mk hr1
  have HC1 := Aside0.mk hc1
  clear hr1 hc1
  have H : (if (l0.length : Int) = (l1.length : Int) then (trestlebook_SameInts.l0 k l0 l1 0) else (some false)) = some r := h
  clear h
  by_cases c3 : (l0.length : Int) = (l1.length : Int)
  · rw [if_pos c3] at H
    have c3b0 : ((l0.length : Int) == (l1.length : Int)) = true := beq_iff_eq.mpr c3
    have c3b1 : ((l0.length : Int) != (l1.length : Int)) = false := bne_eq_false_iff_eq.mpr c3
    have c3b2 : (l0.length == l1.length) = true := by first | simpa using c3 | (simp at c3 ⊢; omega)
    clear c3
    have H' := Aside0.mk H
    clear H
    go_enter Try.func50, Try.ntmps50
    go_wp2
    repeat (go_quiet (fail); try go_wp2)
    go_loopg [5] k (fun kq v5 w' => ∃ (x5_1 : Int), v5 = .int .i64 x5_1 ∧ Aside0 (trestlebook_SameInts.l0 kq l0 l1 x5_1 = some r) ∧ Aside0 (kq ≤ k) ∧ Drawn0 w w')
    case atStart => exact ⟨(0), (by first | rfl | (simp; done) | (simp [*]; done)), H', ⟨Nat.le_refl _⟩, by repeat (first | exact Drawn0.refl _ | apply Drawn0.step)⟩
    case round =>
      clear H'
      try clear c1
      try clear p2
      try clear c3
      try clear c3b0
      try clear c3b1
      try clear c3b2
      obtain ⟨x5_1, rfl, HA, HK1, ⟨m1, rfl⟩⟩ := hrel
      cases gk with
      | zero => exact absurd HA.out (by simp [trestlebook_SameInts.l0])
      | succ k1 =>
        have H := HA.out
        clear HA
        simp only [trestlebook_SameInts.l0] at H
        by_cases c4 : x5_1 < (l0.length : Int)
        · rw [if_pos c4] at H
          have c4b0 : decide (x5_1 < (l0.length : Int)) = true := decide_eq_true c4
          clear c4
          by_cases c5 : 0 ≤ x5_1
          · rw [if_pos c5] at H
            have c5b0 : decide (0 ≤ x5_1) = true := decide_eq_true c5
            clear c5
            by_cases c6 : x5_1 < (l1.length : Int)
            · rw [if_pos c6] at H
              have c6b0 : decide (x5_1 < (l1.length : Int)) = true := decide_eq_true c6
              clear c6
              by_cases c7 : (rd l0 x5_1) = (rd l1 x5_1)
              · rw [if_pos c7] at H
                have c7b0 : ((rd l0 x5_1) == (rd l1 x5_1)) = true := beq_iff_eq.mpr c7
                have c7b1 : ((rd l0 x5_1) != (rd l1 x5_1)) = false := bne_eq_false_iff_eq.mpr c7
                clear c7
                have H' := Aside0.mk H
                clear H
                have p103 : 0 ≤ (x5_1 : Int) := of_decide_eq_true (by first | (with_reducible assumption) | assumption)
                have q103 : x5_1 < (l0.length : Int) := of_decide_eq_true (by first | (with_reducible assumption) | assumption)
                obtain ⟨ad103, e103, hx103_0⟩ := Kd.at_int HR0.out x5_1 p103 q103
                cases e103
                replace p103 := eq_true p103
                replace q103 := eq_true q103
                have p104 : 0 ≤ (x5_1 : Int) := of_decide_eq_true (by first | (with_reducible assumption) | assumption)
                have q104 : x5_1 < (l1.length : Int) := of_decide_eq_true (by first | (with_reducible assumption) | assumption)
                obtain ⟨ad104, e104, hx104_0⟩ := Kd.at_int HR1.out x5_1 p104 q104
                cases e104
                replace p104 := eq_true p104
                replace q104 := eq_true q104
                go_wp2
                repeat (go_quiet (fail); try go_wp2)
                go_roundg k1
                case measure => have := HK1.out; omega
                case rel => exact ⟨(wrap64 (x5_1 + 1)), (by first | rfl | (simp; done) | (simp [*]; done)), H', ⟨by have := HK1.out; omega⟩, by repeat (first | exact Drawn0.refl _ | apply Drawn0.step)⟩
              · rw [if_neg c7] at H
                have c7b0 : ((rd l0 x5_1) == (rd l1 x5_1)) = false := beq_eq_false_iff_ne.mpr c7
                have c7b1 : ((rd l0 x5_1) != (rd l1 x5_1)) = true := bne_iff_ne.mpr c7
                obtain rfl := Option.some.inj H
                have p103 : 0 ≤ (x5_1 : Int) := of_decide_eq_true (by first | (with_reducible assumption) | assumption)
                have q103 : x5_1 < (l0.length : Int) := of_decide_eq_true (by first | (with_reducible assumption) | assumption)
                obtain ⟨ad103, e103, hx103_0⟩ := Kd.at_int HR0.out x5_1 p103 q103
                cases e103
                replace p103 := eq_true p103
                replace q103 := eq_true q103
                have p104 : 0 ≤ (x5_1 : Int) := of_decide_eq_true (by first | (with_reducible assumption) | assumption)
                have q104 : x5_1 < (l1.length : Int) := of_decide_eq_true (by first | (with_reducible assumption) | assumption)
                obtain ⟨ad104, e104, hx104_0⟩ := Kd.at_int HR1.out x5_1 p104 q104
                cases e104
                replace p104 := eq_true p104
                replace q104 := eq_true q104
                go_wp2
                repeat (go_quiet (fail); try go_wp2)
                go_ret
                exact ⟨by first | rfl | (simp; done) | (simp [*]; done), by repeat (first | exact Drawn0.refl _ | apply Drawn0.step)⟩
            · rw [if_neg c6] at H
              exact absurd H (by simp)
          · rw [if_neg c5] at H
            exact absurd H (by simp)
        · rw [if_neg c4] at H
          have c4b0 : decide (x5_1 < (l0.length : Int)) = false := decide_eq_false c4
          clear c4
          obtain rfl := Option.some.inj H
          go_wp2
          repeat (go_quiet (fail); try go_wp2)
          go_ret
          exact ⟨by first | rfl | (simp; done) | (simp [*]; done), by repeat (first | exact Drawn0.refl _ | apply Drawn0.step)⟩
  · rw [if_neg c3] at H
    have c3b0 : ((l0.length : Int) == (l1.length : Int)) = false := beq_eq_false_iff_ne.mpr c3
    have c3b1 : ((l0.length : Int) != (l1.length : Int)) = true := bne_iff_ne.mpr c3
    have c3b2 : (l0.length == l1.length) = false := by first | simpa using c3 | (simp at c3 ⊢; omega)
    obtain rfl := Option.some.inj H
    go_enter Try.func50, Try.ntmps50
    go_wp2
    repeat (go_quiet (fail); try go_wp2)
    go_ret
    exact ⟨by first | rfl | (simp; done) | (simp [*]; done), by repeat (first | exact Drawn0.refl _ | apply Drawn0.step)⟩

end Go.Proofs.Ythhmjfjkbmmcaaa.GCS
-- written by a program of this session's own (gprint.py), after the kit's print
namespace Go.Proofs.Ythhmjfjkbmmcaaa.GCS
open Go.RowKit Go.Proofs.YthhmjfjkbmmcaaaW.PrintWords Go.Proofs.YthhmjfjkbmmcaaaW.PrintLast Go.Proofs.YthhmjfjkbmmcaaaW.PrintMore
attribute [local go_sem] max2_int min2_int max_two min_two max_three min_three max_four min_four   -- for this text's walks alone
set_option linter.unusedVariables false
set_option linter.unusedSimpArgs false

/-! ### trestlebook_SameClauses: function 27 -/
def trestlebook_SameClauses.l0 : Nat → List (List Int) → List (List Int) → Int → Option (Bool)
  | 0, _, _, _ => none
  | k + 1, x0, x1, x5 => if x5 < (x0.length : Int) then (if 0 ≤ x5 then (if x5 < (x1.length : Int) then ((trestlebook_SameInts.f k (rd_L1 x0 x5) (rd_L1 x1 x5)).bind fun t107 => (if t107 = true then (trestlebook_SameClauses.l0 k x0 x1 (wrap64 (x5 + 1))) else (some false))) else (none)) else (none)) else (some true)
def trestlebook_SameClauses.f (k : Nat) (l0 : List (List Int)) (l1 : List (List Int)) : Option (Bool) := if (l0.length : Int) = (l1.length : Int) then (trestlebook_SameClauses.l0 k l0 l1 0) else (some false)
theorem trestlebook_SameClauses.mono_l : ∀ k, (∀ y0 y1 y2, LeO (trestlebook_SameClauses.l0 k y0 y1 y2) (trestlebook_SameClauses.l0 (k + 1) y0 y1 y2))
  | 0 => fun _ _ _ r h => by simp [trestlebook_SameClauses.l0] at h
  | k + 1 => by
    have ih0 := trestlebook_SameClauses.mono_l k
    · intro y0 y1 y2
      unfold trestlebook_SameClauses.l0
      repeat' first
      | (with_reducible exact ih0 _ _ _)
      | (with_reducible exact trestlebook_SameInts.mono _ _ _)
      | (with_reducible exact LeO.refl _)
      | (with_reducible exact LeO.none _)
      | (with_reducible refine LeO.ite ?_ ?_)
      | (with_reducible refine LeO.bind ?_ (fun _ => ?_))
      | exact ih0 _ _ _
      | exact trestlebook_SameInts.mono _ _ _
      | exact LeO.none _
      | refine LeO.ite ?_ ?_
      | refine LeO.bind ?_ (fun _ => ?_)
theorem trestlebook_SameClauses.mono : ∀ a0 a1 k, LeO (trestlebook_SameClauses.f k a0 a1) (trestlebook_SameClauses.f (k + 1) a0 a1) := by
  intro a0 a1 k
  have ih0 := trestlebook_SameClauses.mono_l k
  unfold trestlebook_SameClauses.f
  repeat' first
      | (with_reducible exact ih0 _ _ _)
      | (with_reducible exact trestlebook_SameInts.mono _ _ _)
      | (with_reducible exact LeO.refl _)
      | (with_reducible exact LeO.none _)
      | (with_reducible refine LeO.ite ?_ ?_)
      | (with_reducible refine LeO.bind ?_ (fun _ => ?_))
      | exact ih0 _ _ _
      | exact trestlebook_SameInts.mono _ _ _
      | exact LeO.none _
      | refine LeO.ite ?_ ?_
      | refine LeO.bind ?_ (fun _ => ?_)
set_option maxHeartbeats 8000000 in
set_option maxRecDepth 100000 in
theorem trestlebook_SameClauses.calls (k : Nat) (A0 : Option Addr) (c0 : Nat) (l0 : List (List Int)) (A1 : Option Addr) (c1 : Nat) (l1 : List (List Int)) (r : Bool) (w : World) (hr0 : Kd.C (Kd.slice 3 (Kd.int .i64)) w A0 l0.length l0) (hc0 : l0.length ≤ c0) (hr1 : Kd.C (Kd.slice 3 (Kd.int .i64)) w A1 l1.length l1) (hc1 : l1.length ≤ c1) (h : trestlebook_SameClauses.f k l0 l1 = some r) :
    Calls Try.prog 27 #[.slice A0 l0.length c0, .slice A1 l1.length c1] w fun e w' => e = .returned (.bool r) ∧ Drawn0 w w' := by
  have HR0 := Aside0.mk hr0
  have HC0 := Aside0.mk hc0
  clear hr0 hc0
  have HR1 := Aside0.mk hr1
  have HC1 := Aside0.mk hc1
  clear hr1 hc1
  have H : (if (l0.length : Int) = (l1.length : Int) then (trestlebook_SameClauses.l0 k l0 l1 0) else (some false)) = some r := h
  clear h
  by_cases c3 : (l0.length : Int) = (l1.length : Int)
  · rw [if_pos c3] at H
    have c3b0 : ((l0.length : Int) == (l1.length : Int)) = true := beq_iff_eq.mpr c3
    have c3b1 : ((l0.length : Int) != (l1.length : Int)) = false := bne_eq_false_iff_eq.mpr c3
    have c3b2 : (l0.length == l1.length) = true := by first | simpa using c3 | (simp at c3 ⊢; omega)
    clear c3
    have H' := Aside0.mk H
    clear H
    go_enter Try.func27, Try.ntmps27
    go_wp2
    repeat (go_quiet (fail); try go_wp2)
    go_loopg [5] k (fun kq v5 w' => ∃ (x5_1 : Int), v5 = .int .i64 x5_1 ∧ Aside0 (trestlebook_SameClauses.l0 kq l0 l1 x5_1 = some r) ∧ Aside0 (kq ≤ k) ∧ Drawn0 w w')
    case atStart => exact ⟨(0), (by first | rfl | (simp; done) | (simp [*]; done)), H', ⟨Nat.le_refl _⟩, by repeat (first | exact Drawn0.refl _ | apply Drawn0.step)⟩
    case round =>
      clear H'
      try clear c1
      try clear c2
      try clear p2
      try clear c3
      try clear c3b0
      try clear c3b1
      try clear c3b2
      obtain ⟨x5_1, rfl, HA, HK1, ⟨m1, rfl⟩⟩ := hrel
      cases gk with
      | zero => exact absurd HA.out (by simp [trestlebook_SameClauses.l0])
      | succ k1 =>
        have H := HA.out
        clear HA
        simp only [trestlebook_SameClauses.l0] at H
        by_cases c4 : x5_1 < (l0.length : Int)
        · rw [if_pos c4] at H
          have c4b0 : decide (x5_1 < (l0.length : Int)) = true := decide_eq_true c4
          clear c4
          by_cases c5 : 0 ≤ x5_1
          · rw [if_pos c5] at H
            have c5b0 : decide (0 ≤ x5_1) = true := decide_eq_true c5
            clear c5
            by_cases c6 : x5_1 < (l1.length : Int)
            · rw [if_pos c6] at H
              have c6b0 : decide (x5_1 < (l1.length : Int)) = true := decide_eq_true c6
              clear c6
              replace H := Option.bind_eq_some_iff.mp H
              obtain ⟨t107, A70, H⟩ := H
              replace H : (if t107 = true then (trestlebook_SameClauses.l0 k1 l0 l1 (wrap64 (x5_1 + 1))) else (some false)) = some r := H
              have A7 := Aside0.mk A70
              clear A70
              by_cases c8 : t107 = true
              · subst c8
                have H1 : (trestlebook_SameClauses.l0 k1 l0 l1 (wrap64 (x5_1 + 1))) = some r := by rw [if_pos rfl] at H; exact H
                clear H
                have H := H1
                clear H1
                have H' := Aside0.mk H
                clear H
                have p105 : 0 ≤ (x5_1 : Int) := of_decide_eq_true (by first | (with_reducible assumption) | assumption)
                have q105 : x5_1 < (l0.length : Int) := of_decide_eq_true (by first | (with_reducible assumption) | assumption)
                obtain ⟨ad105, A105_0, c105_0, e105, hx105_0, hl105_0, hi105_0⟩ := at_L1 HR0.out x5_1 p105 q105
                cases e105
                have HR105_0 := Aside0.mk hi105_0
                have HC105_0 := Aside0.mk hl105_0
                clear hi105_0 hl105_0
                replace p105 := eq_true p105
                replace q105 := eq_true q105
                have p106 : 0 ≤ (x5_1 : Int) := of_decide_eq_true (by first | (with_reducible assumption) | assumption)
                have q106 : x5_1 < (l1.length : Int) := of_decide_eq_true (by first | (with_reducible assumption) | assumption)
                obtain ⟨ad106, A106_0, c106_0, e106, hx106_0, hl106_0, hi106_0⟩ := at_L1 HR1.out x5_1 p106 q106
                cases e106
                have HR106_0 := Aside0.mk hi106_0
                have HC106_0 := Aside0.mk hl106_0
                clear hi106_0 hl106_0
                replace p106 := eq_true p106
                replace q106 := eq_true q106
                go_wp2_with (first | (go_at_call 50; (with_reducible refine (trestlebook_SameInts.calls k1 _ _ (rd_L1 l0 x5_1) _ _ (rd_L1 l1 x5_1) true _ ?side1 ?side2 ?side3 ?side4 A7.out).mono ?_); (case side1 => repeat (first | exact HR105_0.out | (with_reducible refine Kd.C_alloc ?_ _) | (with_reducible refine Kd.C_drewN ?_ _) | (with_reducible refine Kd.C_drew ?_))); (case side2 => exact HC105_0.out); (case side3 => repeat (first | exact HR106_0.out | (with_reducible refine Kd.C_alloc ?_ _) | (with_reducible refine Kd.C_drewN ?_ _) | (with_reducible refine Kd.C_drew ?_))); (case side4 => exact HC106_0.out); rintro e w' ⟨rfl, ⟨nd, rfl⟩⟩; (try first | exact ⟨rfl, _, World.drewN_drewN _ _ _⟩ | exact ⟨rfl, _, Eq.trans (World.drewN_drewN _ _ _) (congrArg (World.drewN _) (Nat.add_assoc _ _ _))⟩)))
                repeat (go_quiet (first | (go_at_call 50; (with_reducible refine (trestlebook_SameInts.calls k1 _ _ (rd_L1 l0 x5_1) _ _ (rd_L1 l1 x5_1) true _ ?side1 ?side2 ?side3 ?side4 A7.out).mono ?_); (case side1 => repeat (first | exact HR105_0.out | (with_reducible refine Kd.C_alloc ?_ _) | (with_reducible refine Kd.C_drewN ?_ _) | (with_reducible refine Kd.C_drew ?_))); (case side2 => exact HC105_0.out); (case side3 => repeat (first | exact HR106_0.out | (with_reducible refine Kd.C_alloc ?_ _) | (with_reducible refine Kd.C_drewN ?_ _) | (with_reducible refine Kd.C_drew ?_))); (case side4 => exact HC106_0.out); rintro e w' ⟨rfl, ⟨nd, rfl⟩⟩; (try first | exact ⟨rfl, _, World.drewN_drewN _ _ _⟩ | exact ⟨rfl, _, Eq.trans (World.drewN_drewN _ _ _) (congrArg (World.drewN _) (Nat.add_assoc _ _ _))⟩))); try go_wp2_with (first | (go_at_call 50; (with_reducible refine (trestlebook_SameInts.calls k1 _ _ (rd_L1 l0 x5_1) _ _ (rd_L1 l1 x5_1) true _ ?side1 ?side2 ?side3 ?side4 A7.out).mono ?_); (case side1 => repeat (first | exact HR105_0.out | (with_reducible refine Kd.C_alloc ?_ _) | (with_reducible refine Kd.C_drewN ?_ _) | (with_reducible refine Kd.C_drew ?_))); (case side2 => exact HC105_0.out); (case side3 => repeat (first | exact HR106_0.out | (with_reducible refine Kd.C_alloc ?_ _) | (with_reducible refine Kd.C_drewN ?_ _) | (with_reducible refine Kd.C_drew ?_))); (case side4 => exact HC106_0.out); rintro e w' ⟨rfl, ⟨nd, rfl⟩⟩; (try first | exact ⟨rfl, _, World.drewN_drewN _ _ _⟩ | exact ⟨rfl, _, Eq.trans (World.drewN_drewN _ _ _) (congrArg (World.drewN _) (Nat.add_assoc _ _ _))⟩))))
                go_roundg k1
                case measure => have := HK1.out; omega
                case rel => exact ⟨(wrap64 (x5_1 + 1)), (by first | rfl | (simp; done) | (simp [*]; done)), H', ⟨by have := HK1.out; omega⟩, by repeat (first | exact Drawn0.refl _ | apply Drawn0.step)⟩
              · replace c8 := Bool.eq_false_iff.mpr c8
                subst c8
                have H1 : (some false) = some r := by rw [if_neg (show ¬ (false = true) by decide)] at H; exact H
                clear H
                have H := H1
                clear H1
                obtain rfl := Option.some.inj H
                have p105 : 0 ≤ (x5_1 : Int) := of_decide_eq_true (by first | (with_reducible assumption) | assumption)
                have q105 : x5_1 < (l0.length : Int) := of_decide_eq_true (by first | (with_reducible assumption) | assumption)
                obtain ⟨ad105, A105_0, c105_0, e105, hx105_0, hl105_0, hi105_0⟩ := at_L1 HR0.out x5_1 p105 q105
                cases e105
                have HR105_0 := Aside0.mk hi105_0
                have HC105_0 := Aside0.mk hl105_0
                clear hi105_0 hl105_0
                replace p105 := eq_true p105
                replace q105 := eq_true q105
                have p106 : 0 ≤ (x5_1 : Int) := of_decide_eq_true (by first | (with_reducible assumption) | assumption)
                have q106 : x5_1 < (l1.length : Int) := of_decide_eq_true (by first | (with_reducible assumption) | assumption)
                obtain ⟨ad106, A106_0, c106_0, e106, hx106_0, hl106_0, hi106_0⟩ := at_L1 HR1.out x5_1 p106 q106
                cases e106
                have HR106_0 := Aside0.mk hi106_0
                have HC106_0 := Aside0.mk hl106_0
                clear hi106_0 hl106_0
                replace p106 := eq_true p106
                replace q106 := eq_true q106
                go_wp2_with (first | (go_at_call 50; (with_reducible refine (trestlebook_SameInts.calls k1 _ _ (rd_L1 l0 x5_1) _ _ (rd_L1 l1 x5_1) false _ ?side1 ?side2 ?side3 ?side4 A7.out).mono ?_); (case side1 => repeat (first | exact HR105_0.out | (with_reducible refine Kd.C_alloc ?_ _) | (with_reducible refine Kd.C_drewN ?_ _) | (with_reducible refine Kd.C_drew ?_))); (case side2 => exact HC105_0.out); (case side3 => repeat (first | exact HR106_0.out | (with_reducible refine Kd.C_alloc ?_ _) | (with_reducible refine Kd.C_drewN ?_ _) | (with_reducible refine Kd.C_drew ?_))); (case side4 => exact HC106_0.out); rintro e w' ⟨rfl, ⟨nd, rfl⟩⟩; (try first | exact ⟨rfl, _, World.drewN_drewN _ _ _⟩ | exact ⟨rfl, _, Eq.trans (World.drewN_drewN _ _ _) (congrArg (World.drewN _) (Nat.add_assoc _ _ _))⟩)))
                repeat (go_quiet (first | (go_at_call 50; (with_reducible refine (trestlebook_SameInts.calls k1 _ _ (rd_L1 l0 x5_1) _ _ (rd_L1 l1 x5_1) false _ ?side1 ?side2 ?side3 ?side4 A7.out).mono ?_); (case side1 => repeat (first | exact HR105_0.out | (with_reducible refine Kd.C_alloc ?_ _) | (with_reducible refine Kd.C_drewN ?_ _) | (with_reducible refine Kd.C_drew ?_))); (case side2 => exact HC105_0.out); (case side3 => repeat (first | exact HR106_0.out | (with_reducible refine Kd.C_alloc ?_ _) | (with_reducible refine Kd.C_drewN ?_ _) | (with_reducible refine Kd.C_drew ?_))); (case side4 => exact HC106_0.out); rintro e w' ⟨rfl, ⟨nd, rfl⟩⟩; (try first | exact ⟨rfl, _, World.drewN_drewN _ _ _⟩ | exact ⟨rfl, _, Eq.trans (World.drewN_drewN _ _ _) (congrArg (World.drewN _) (Nat.add_assoc _ _ _))⟩))); try go_wp2_with (first | (go_at_call 50; (with_reducible refine (trestlebook_SameInts.calls k1 _ _ (rd_L1 l0 x5_1) _ _ (rd_L1 l1 x5_1) false _ ?side1 ?side2 ?side3 ?side4 A7.out).mono ?_); (case side1 => repeat (first | exact HR105_0.out | (with_reducible refine Kd.C_alloc ?_ _) | (with_reducible refine Kd.C_drewN ?_ _) | (with_reducible refine Kd.C_drew ?_))); (case side2 => exact HC105_0.out); (case side3 => repeat (first | exact HR106_0.out | (with_reducible refine Kd.C_alloc ?_ _) | (with_reducible refine Kd.C_drewN ?_ _) | (with_reducible refine Kd.C_drew ?_))); (case side4 => exact HC106_0.out); rintro e w' ⟨rfl, ⟨nd, rfl⟩⟩; (try first | exact ⟨rfl, _, World.drewN_drewN _ _ _⟩ | exact ⟨rfl, _, Eq.trans (World.drewN_drewN _ _ _) (congrArg (World.drewN _) (Nat.add_assoc _ _ _))⟩))))
                go_ret
                exact ⟨by first | rfl | (simp; done) | (simp [*]; done), by repeat (first | exact Drawn0.refl _ | apply Drawn0.step)⟩
            · rw [if_neg c6] at H
              exact absurd H (by simp)
          · rw [if_neg c5] at H
            exact absurd H (by simp)
        · rw [if_neg c4] at H
          have c4b0 : decide (x5_1 < (l0.length : Int)) = false := decide_eq_false c4
          clear c4
          obtain rfl := Option.some.inj H
          go_wp2
          repeat (go_quiet (fail); try go_wp2)
          go_ret
          exact ⟨by first | rfl | (simp; done) | (simp [*]; done), by repeat (first | exact Drawn0.refl _ | apply Drawn0.step)⟩
  · rw [if_neg c3] at H
    have c3b0 : ((l0.length : Int) == (l1.length : Int)) = false := beq_eq_false_iff_ne.mpr c3
    have c3b1 : ((l0.length : Int) != (l1.length : Int)) = true := bne_iff_ne.mpr c3
    have c3b2 : (l0.length == l1.length) = false := by first | simpa using c3 | (simp at c3 ⊢; omega)
    obtain rfl := Option.some.inj H
    go_enter Try.func27, Try.ntmps27
    go_wp2
    repeat (go_quiet (fail); try go_wp2)
    go_ret
    exact ⟨by first | rfl | (simp; done) | (simp [*]; done), by repeat (first | exact Drawn0.refl _ | apply Drawn0.step)⟩

end Go.Proofs.Ythhmjfjkbmmcaaa.GCS
