/- trestleref01.Put, as the printed texts ask for it. -/
import Derived.Test.YthhmjfjkbmmcaaaKRA
import Derived.Test.YthhmjfjkbmmcaaaKRB
import Derived.Shelf.SlicesE.DeleteFunc
import Derived.Test.YthhmjfjkbmmcaaaKRC
import Derived.Deep.RegionWith
import Derived.Test.YthhmjfjkbmmcaaaProg
import Derived.Below
import Derived.Deep.Draws
import Derived.Deep.AppendLies
import Derived.Maps.AppendAt
import Derived.OwnWalk
import Derived.Laws.BytesArg
import Derived.Laws.MakeOwn
import Derived.Laws.OwnMore
import Derived.Deep.OwnRows
import Derived.Tactics
import Derived.Lib.ConvBytes
import Derived.Laws.Slices
import Derived.WalkKit
import Derived.KernelRfl
import Derived.RowKit3
import Derived.Deep.LoopGhost
import Derived.Deep.QuietTactic
import Derived.BigQuiet
import Derived.WideLaws
import Derived.Deep.DeepCutAuto
import Derived.Deep.CutBlock
import Derived.Deep.RegionHeld3
import Derived.Laws.Rows
import Derived.Lib.AppendStr
import Derived.ArgAppend
import Derived.Laws.IdiomCopy
import Derived.OrdersHeld
import Derived.Laws.BitsLemmas
import Derived.RowKit
import Derived.Test.YthhmjfjkbmmcaaaKWWords
import Derived.Test.YthhmjfjkbmmcaaaKWLast
import Derived.Test.YthhmjfjkbmmcaaaKWTab
import Derived.Test.YthhmjfjkbmmcaaaKWFour
import Derived.Test.YthhmjfjkbmmcaaaKWQPut
import Derived.Test.YthhmjfjkbmmcaaaKWApart
import Derived.Test.YthhmjfjkbmmcaaaKWArr
import Derived.Test.YthhmjfjkbmmcaaaKWZeros
import Derived.Test.YthhmjfjkbmmcaaaKWFoot
import Derived.Test.YthhmjfjkbmmcaaaKWKept
import Derived.Test.YthhmjfjkbmmcaaaKWShare
import Derived.Test.YthhmjfjkbmmcaaaKWN
import Derived.Test.YthhmjfjkbmmcaaaKWFootNe
import Derived.Test.YthhmjfjkbmmcaaaKWAt
import Derived.Test.YthhmjfjkbmmcaaaKWEqStruct
import Derived.Test.YthhmjfjkbmmcaaaKWRepsOne
import Derived.Test.YthhmjfjkbmmcaaaKWInv
import Derived.Test.YthhmjfjkbmmcaaaKWInvWords
import Derived.Test.YthhmjfjkbmmcaaaKWGuard
import Derived.Test.YthhmjfjkbmmcaaaKWNEv
import Derived.Test.YthhmjfjkbmmcaaaKWMore
import Derived.Outline
-- written by a program of this session's own (gprint.py), after the kit's print
namespace Go.Proofs.Ythhmjfjkbmmcaaa.GCS
open Go.RowKit Go.Proofs.YthhmjfjkbmmcaaaW.PrintWords Go.Proofs.YthhmjfjkbmmcaaaW.PrintLast Go.Proofs.YthhmjfjkbmmcaaaW.PrintMore
attribute [local go_sem] max2_int min2_int max_two min_two max_three min_three max_four min_four   -- for this text's walks alone
set_option linter.unusedVariables false
set_option linter.unusedSimpArgs false

/-! ### clean_made: function 23 -/
def clean_made.l0 : Nat → List (List Int) → Int → Int → Int → List (List Int) → Option (Int × (List (List Int)))
  | 0, _, _, _, _, _ => none
  | k + 1, x11, x12, x13, x114000, x114001 => if x13 < x12 then (if 0 ≤ x13 then (if x13 < (x11.length : Int) then ((api_Clause_int.f (rd_L1 x11 x13)).bind fun t115 => (if x114001.length < 5864062014805 then (clean_made.l0 k x11 x12 (wrap64 (x13 + 1)) x114000 (x114001 ++ [t115])) else (none))) else (none)) else (none)) else (some (x114000, x114001))
def clean_made.f (k : Nat) (a0_0 : Int) (l0_1 : List (List Int)) (l1 : List (List Int)) : Option (Int × (List (List Int))) := clean_made.l0 k l1 (l1.length : Int) 0 a0_0 ([] : List (List Int))
def clean_made.T5 : Bool × List (List Nat × List Nat) := (true, [([], []), ([0], [0]), ([], []), ([2], [2]), ([3], [3]), ([1, 4, 3], [1, 4]), ([0, 1, 2, 3, 4, 5], []), ([6, 5, 5, 0, 1, 2, 3, 4, 5], [5, 6])])
def clean_made.B5 : List Nat := [0, 1, 0, 4, 12, 31, 63, 127]
theorem clean_made.tab5 : rtab .any (opsOf Try.f23 5) = clean_made.T5 := by kernel_rfl
theorem clean_made.bits5 : waitsOk clean_made.T5.2 clean_made.B5 = true := by kernel_rfl
set_option maxHeartbeats 8000000 in
set_option maxRecDepth 100000 in
theorem clean_made.calls (k : Nat) (a0_0 : Int) (A0_1 : Option Addr) (c0_1 : Nat) (l0_1 : List (List Int)) (A1 : Option Addr) (c1 : Nat) (l1 : List (List Int)) (r1 : Int) (r2 : List (List Int)) (w : World) (hr0_1 : Kd.C (Kd.slice 3 (Kd.int .i64)) w A0_1 l0_1.length l0_1) (hc0_1 : l0_1.length ≤ c0_1) (hr1 : Kd.C (Kd.slice 3 (Kd.int .i64)) w A1 l1.length l1) (hc1 : l1.length ≤ c1) (h : clean_made.f k a0_0 l0_1 l1 = some (r1, r2)) :
    Calls Try.prog 23 #[.agg #[.int .i64 a0_0, .slice A0_1 l0_1.length c0_1], .slice A1 l1.length c1] w fun e w' => ∃ v1_ : Value, e = .returned (.agg #[.int .i64 r1, v1_]) ∧ Kd.S (Kd.slice 3 (Kd.int .i64)) 43 w' w.heap.size (fun _ => True) v1_ r2 ∧ Below w.heap.size w w' := by
  have hu24 := Try.underlying24
  have HR0_1 := Aside0.mk hr0_1
  have HC0_1 := Aside0.mk hc0_1
  clear hr0_1 hc0_1
  have HR1 := Aside0.mk hr1
  have HC1 := Aside0.mk hc1
  clear hr1 hc1
  have HB := Aside0.mk (Below.refl w.heap.size w)
  have H : (clean_made.l0 k l1 (l1.length : Int) 0 a0_0 ([] : List (List Int))) = some (r1, r2) := h
  clear h
  have H' := Aside0.mk H
  clear H
  go_enter Try.func23, Try.ntmps23
  go_wp2_with (first | ((with_reducible refine gate_dst (N := 2) rfl ?_); refine box_event ?hg (N := 2) ?hd (cs := #[.int .i64 a0_0, .slice A0_1 l0_1.length c0_1]) (t := 24) ?hr ?_; (case hd => rfl); (case hg => rfl); (case hr => first | (go_simp; done) | (go_simp; rfl)); intro gb111 hg w3 hbox hb; have n0_ := Aside0.mk (below_step (by repeat (first | (with_reducible first | exact HB.out | apply below_alloc | apply pw_below_drewN | apply below_drew1) | exact HB.out)) hb); have n1_ := Aside0.mk (hbox); have n2_ := Aside0.mk ((by rw [hg]; exact (below_size (by repeat (first | (with_reducible first | exact HB.out | apply below_alloc | apply pw_below_drewN | apply below_drew1) | exact HB.out))) : w.heap.size ≤ gb111)); have n3_ := Aside0.mk ((by rw [hg]; exact (below_size (by repeat (first | (with_reducible first | exact HB.out | apply below_alloc | apply pw_below_drewN | apply below_drew1) | exact HB.out))) : w.heap.size ≤ gb111)); clear HB; have HB := n0_; have BK111 := n1_; have GW111 := n2_; have GE111 := n3_; clear n0_ n1_ n2_ n3_; clear hb hbox hg) | ((with_reducible refine gate_dst (N := 4) rfl ?_); refine box_event ?hg (N := 4) ?hd (cs := #[.int .i64 0, .slice none 0 0]) (t := 24) ?hr ?_; (case hd => rfl); (case hg => rfl); (case hr => first | (go_simp; done) | (go_simp; rfl)); intro gb112 hg w4 hbox hb; have n0_ := Aside0.mk (blk_below (g := gb111) (o := .cells #[.int .i64 a0_0, .slice A0_1 l0_1.length c0_1] 24 (0, 0)) (by (with_reducible repeat (first | refine blk_drewN ?_ _ | refine blk_drew ?_ | refine blk_alloc ?_ _)); exact BK111.out) hb); have n1_ := Aside0.mk (below_step (by repeat (first | (with_reducible first | exact HB.out | apply below_alloc | apply pw_below_drewN | apply below_drew1 | refine below_set ?_ GE111.out) | exact HB.out)) hb); have n2_ := Aside0.mk (hbox); have n3_ := Aside0.mk ((by rw [hg]; exact (below_size (by repeat (first | (with_reducible first | exact HB.out | apply below_alloc | apply pw_below_drewN | apply below_drew1 | refine below_set ?_ GE111.out) | exact HB.out))) : w.heap.size ≤ gb112)); have n4_ := Aside0.mk ((by rw [hg]; exact (below_size (by repeat (first | (with_reducible first | exact HB.out | apply below_alloc | apply pw_below_drewN | apply below_drew1 | refine below_set ?_ GE111.out) | exact HB.out))) : w.heap.size ≤ gb112)); have n5_ := Aside0.mk ((by rw [hg]; exact Nat.ne_of_lt (blk_lt (g := gb111) (o := .cells #[.int .i64 a0_0, .slice A0_1 l0_1.length c0_1] 24 (0, 0)) (by (with_reducible repeat (first | refine blk_drewN ?_ _ | refine blk_drew ?_ | refine blk_alloc ?_ _)); exact BK111.out)) : gb111 ≠ gb112)); have n6_ := Aside0.mk ((by rw [hg]; exact Nat.ne_of_gt (blk_lt (g := gb111) (o := .cells #[.int .i64 a0_0, .slice A0_1 l0_1.length c0_1] 24 (0, 0)) (by (with_reducible repeat (first | refine blk_drewN ?_ _ | refine blk_drew ?_ | refine blk_alloc ?_ _)); exact BK111.out)) : gb112 ≠ gb111)); clear BK111; clear HB; have BK111 := n0_; have HB := n1_; have BK112 := n2_; have GW112 := n3_; have GE112 := n4_; have NB111_112 := n5_; have NB112_111 := n6_; clear n0_ n1_ n2_ n3_ n4_ n5_ n6_; clear hb hbox hg; have hnb5 := NB111_112.out; have hnc5 := NB112_111.out; have hcz6_0 : w4.cell? ⟨gb111, 0, none⟩ = some (.int .i64 a0_0) := (blk_cell BK111.out 0).trans rfl; have hcz6_1 : w4.cell? ⟨gb111, 1, none⟩ = some (.slice A0_1 l0_1.length c0_1) := (blk_cell BK111.out 1).trans rfl; have hfz6_0 := blk_frozen BK111.out 0; have hfz6_1 := blk_frozen BK111.out 1) | ((with_reducible refine gate_dst (N := 5) rfl ?_); refine box_event ?hg (N := 5) ?hd (cs := #[.int .i64 0, .slice none 0 0]) (t := 24) ?hr ?_; (case hd => rfl); (case hg => rfl); (case hr => first | (go_simp; done) | (go_simp; rfl)); intro gb113 hg w7 hbox hb; have n0_ := Aside0.mk (blk_below (g := gb111) (o := .cells #[.int .i64 a0_0, .slice A0_1 l0_1.length c0_1] 24 (0, 0)) (by (with_reducible repeat (first | refine blk_drewN ?_ _ | refine blk_drew ?_ | refine blk_alloc ?_ _)); exact BK111.out) hb); have n1_ := Aside0.mk (blk_below (g := gb112) (o := .cells #[.int .i64 0, .slice none 0 0] 24 (0, 0)) (by (with_reducible repeat (first | refine blk_drewN ?_ _ | refine blk_drew ?_ | refine blk_alloc ?_ _)); exact BK112.out) hb); have n2_ := Aside0.mk (below_step (by repeat (first | (with_reducible first | exact HB.out | apply below_alloc | apply pw_below_drewN | apply below_drew1 | refine below_set ?_ GE111.out | refine below_set ?_ GE112.out) | exact HB.out)) hb); have n3_ := Aside0.mk (hbox); have n4_ := Aside0.mk ((by rw [hg]; exact (below_size (by repeat (first | (with_reducible first | exact HB.out | apply below_alloc | apply pw_below_drewN | apply below_drew1 | refine below_set ?_ GE111.out | refine below_set ?_ GE112.out) | exact HB.out))) : w.heap.size ≤ gb113)); have n5_ := Aside0.mk ((by rw [hg]; exact (below_size (by repeat (first | (with_reducible first | exact HB.out | apply below_alloc | apply pw_below_drewN | apply below_drew1 | refine below_set ?_ GE111.out | refine below_set ?_ GE112.out) | exact HB.out))) : w.heap.size ≤ gb113)); have n6_ := Aside0.mk ((by rw [hg]; exact Nat.ne_of_lt (blk_lt (g := gb111) (o := .cells #[.int .i64 a0_0, .slice A0_1 l0_1.length c0_1] 24 (0, 0)) (by (with_reducible repeat (first | refine blk_drewN ?_ _ | refine blk_drew ?_ | refine blk_alloc ?_ _)); exact BK111.out)) : gb111 ≠ gb113)); have n7_ := Aside0.mk ((by rw [hg]; exact Nat.ne_of_gt (blk_lt (g := gb111) (o := .cells #[.int .i64 a0_0, .slice A0_1 l0_1.length c0_1] 24 (0, 0)) (by (with_reducible repeat (first | refine blk_drewN ?_ _ | refine blk_drew ?_ | refine blk_alloc ?_ _)); exact BK111.out)) : gb113 ≠ gb111)); have n8_ := Aside0.mk ((by rw [hg]; exact Nat.ne_of_lt (blk_lt (g := gb112) (o := .cells #[.int .i64 0, .slice none 0 0] 24 (0, 0)) (by (with_reducible repeat (first | refine blk_drewN ?_ _ | refine blk_drew ?_ | refine blk_alloc ?_ _)); exact BK112.out)) : gb112 ≠ gb113)); have n9_ := Aside0.mk ((by rw [hg]; exact Nat.ne_of_gt (blk_lt (g := gb112) (o := .cells #[.int .i64 0, .slice none 0 0] 24 (0, 0)) (by (with_reducible repeat (first | refine blk_drewN ?_ _ | refine blk_drew ?_ | refine blk_alloc ?_ _)); exact BK112.out)) : gb113 ≠ gb112)); clear BK111; clear BK112; clear HB; have BK111 := n0_; have BK112 := n1_; have HB := n2_; have BK113 := n3_; have GW113 := n4_; have GE113 := n5_; have NB111_113 := n6_; have NB113_111 := n7_; have NB112_113 := n8_; have NB113_112 := n9_; clear n0_ n1_ n2_ n3_ n4_ n5_ n6_ n7_ n8_ n9_; clear hb hbox hg; have hnb8 := NB113_111.out; have hnc8 := NB111_113.out; have hnb9 := NB113_112.out; have hnc9 := NB112_113.out; have hcz10_0 : w7.cell? ⟨gb113, 0, none⟩ = some (.int .i64 0) := (blk_cell BK113.out 0).trans rfl; have hcz10_1 : w7.cell? ⟨gb113, 1, none⟩ = some (.slice none 0 0) := (blk_cell BK113.out 1).trans rfl; have hfz10_0 := blk_frozen BK113.out 0; have hfz10_1 := blk_frozen BK113.out 1))
  go_loopg [13] k (fun kq v13 w' => ∃ (x13_1 : Int) (x114001_1 : List (List Int)) (u114001 : Value), v13 = .int .i64 x13_1 ∧ Aside0 (clean_made.l0 kq l1 (l1.length : Int) x13_1 a0_0 x114001_1 = some (r1, r2)) ∧ Aside0 (kq ≤ k) ∧ Aside0 (Kd.S (Kd.slice 3 (Kd.int .i64)) 43 w' w.heap.size (fun _ => True) u114001 x114001_1) ∧ Aside0 (w'.heap[gb111]? = some (.cells #[.int .i64 a0_0, (.slice A0_1 l0_1.length c0_1)] 24 (0, 0))) ∧ Aside0 (w'.heap[gb112]? = some (.cells #[.int .i64 0, (.slice none 0 0)] 24 (0, 0))) ∧ Aside0 (w'.heap[gb113]? = some (.cells #[.int .i64 a0_0, u114001] 24 (0, 0))) ∧ Aside0 (Below w.heap.size w w'))
  case atStart => exact ⟨(0), (([] : List (List Int))), (.slice none 0 0), (by first | rfl | (simp; done) | (simp [*]; done)), H', ⟨Nat.le_refl _⟩, ⟨by first | exact Kd.S_nil _ _ _ _ _ | exact Kd.N_nil _ _ _ _ _ | exact Kd.V_nil _ _ _ _ _ | exact Kd.Q_nil _ _ _ _ _ | exact Kd.R_nil _ _ _ _ _⟩, ⟨by (with_reducible repeat (first | refine blk_drewN ?_ _ | refine blk_drew ?_ | refine blk_alloc ?_ _)); refine blk_far ?_ NB111_113.out _; (with_reducible repeat (first | refine blk_drewN ?_ _ | refine blk_drew ?_ | refine blk_alloc ?_ _)); refine blk_far ?_ NB111_113.out _; (with_reducible repeat (first | refine blk_drewN ?_ _ | refine blk_drew ?_ | refine blk_alloc ?_ _)); exact BK111.out⟩, ⟨by (with_reducible repeat (first | refine blk_drewN ?_ _ | refine blk_drew ?_ | refine blk_alloc ?_ _)); refine blk_far ?_ NB112_113.out _; (with_reducible repeat (first | refine blk_drewN ?_ _ | refine blk_drew ?_ | refine blk_alloc ?_ _)); refine blk_far ?_ NB112_113.out _; (with_reducible repeat (first | refine blk_drewN ?_ _ | refine blk_drew ?_ | refine blk_alloc ?_ _)); exact BK112.out⟩, ⟨by (with_reducible repeat (first | refine blk_drewN ?_ _ | refine blk_drew ?_ | refine blk_alloc ?_ _)); refine blk_put (cs := #[.int .i64 a0_0, .slice none 0 0]) ?_ 1 _ rfl; (with_reducible repeat (first | refine blk_drewN ?_ _ | refine blk_drew ?_ | refine blk_alloc ?_ _)); refine blk_put (cs := #[.int .i64 0, .slice none 0 0]) ?_ 0 _ rfl; (with_reducible repeat (first | refine blk_drewN ?_ _ | refine blk_drew ?_ | refine blk_alloc ?_ _)); exact BK113.out⟩, ⟨by repeat (first | (with_reducible first | exact HB.out | apply below_alloc | apply pw_below_drewN | apply below_drew1 | refine below_set ?_ GE111.out | refine below_set ?_ GE112.out | refine below_set ?_ GE113.out) | exact HB.out)⟩⟩
  case round =>
    clear H'
    try clear c1
    try clear c2
    try clear p2
    try clear c5
    try clear c8
    try clear c9
    try clear hcz10_0
    try clear hcz10_1
    try clear hcz6_0
    try clear hcz6_1
    try clear hfz10_0
    try clear hfz10_1
    try clear hfz6_0
    try clear hfz6_1
    obtain ⟨x13_1, x114001_1, u114001, rfl, HA, HK1, HO_114001, BK111, BK112, BK113, HB⟩ := hrel
    cases gk with
    | zero => exact absurd HA.out (by simp [clean_made.l0])
    | succ k1 =>
      have H := HA.out
      clear HA
      simp only [clean_made.l0] at H
      by_cases c11 : x13_1 < (l1.length : Int)
      · rw [if_pos c11] at H
        have c11b0 : decide (x13_1 < (l1.length : Int)) = true := decide_eq_true c11
        clear c11
        by_cases c12 : 0 ≤ x13_1
        · rw [if_pos c12] at H
          have c12b0 : decide (0 ≤ x13_1) = true := decide_eq_true c12
          clear c12
          by_cases c13 : x13_1 < (l1.length : Int)
          · rw [if_pos c13] at H
            have c13b0 : decide (x13_1 < (l1.length : Int)) = true := decide_eq_true c13
            clear c13
            replace H := Option.bind_eq_some_iff.mp H
            obtain ⟨t115, A140, H⟩ := H
            replace H : (if x114001_1.length < 5864062014805 then (clean_made.l0 k1 l1 (l1.length : Int) (wrap64 (x13_1 + 1)) a0_0 (x114001_1 ++ [t115])) else (none)) = some (r1, r2) := H
            have A14 := Aside0.mk A140
            clear A140
            by_cases c15 : x114001_1.length < 5864062014805
            · rw [if_pos c15] at H
              have LMc15 := Aside0.mk c15
              clear c15
              obtain ⟨y118, hy118⟩ : ∃ y_ : List (List Int), y_ = (x114001_1 ++ [t115]) := ⟨_, rfl⟩
              replace H : (clean_made.l0 k1 l1 (l1.length : Int) (wrap64 (x13_1 + 1)) a0_0 y118) = some (r1, r2) := by first | (rw [hy118]; with_reducible exact H) | (have H2_ := (Option.bind_some _ _).symm.trans H; rw [hy118]; with_reducible exact H2_) | (have H2_ := (Option.bind_some _ _).symm.trans H; with_reducible exact H2_) | with_reducible exact H | (rw [hy118]; exact H) | exact H
              have Ny118 := Aside0.mk hy118
              clear hy118
              have H' := Aside0.mk H
              clear H
              have p114 : 0 ≤ (x13_1 : Int) := of_decide_eq_true (by first | (with_reducible assumption) | assumption)
              have q114 : x13_1 < (l1.length : Int) := of_decide_eq_true (by first | (with_reducible assumption) | assumption)
              obtain ⟨ad114, A114_0, c114_0, e114, hx114_0, hl114_0, hi114_0⟩ := at_L1 HR1.out x13_1 p114 q114
              cases e114
              replace hx114_0 := (HB.out.cell (World.block_lt_of_cell? w _ hx114_0)).trans hx114_0
              have HR114_0 := Aside0.mk hi114_0
              have HC114_0 := Aside0.mk hl114_0
              clear hi114_0 hl114_0
              replace p114 := eq_true p114
              replace q114 := eq_true q114
              try go_wp2
              have n0_ := Aside0.mk (Kd.S_drew HO_114001.out)
              have n1_ := Aside0.mk (blk_drew BK111.out)
              have n2_ := Aside0.mk (blk_drew BK112.out)
              have n3_ := Aside0.mk (blk_drew BK113.out)
              have n4_ := Aside0.mk (below_drew1 HB.out)
              clear HO_114001
              clear BK111
              clear BK112
              clear BK113
              clear HB
              have HO_114001 := n0_
              have BK111 := n1_
              have BK112 := n2_
              have BK113 := n3_
              have HB := n4_
              clear n0_ n1_ n2_ n3_ n4_
              refine start_ (n := 8) (S := fun w' => w'.cell? ⟨gb113, 0, none⟩ = some (.int .i64 a0_0) ∧ w'.cell? ⟨gb113, 1, none⟩ = some (u114001)) (ds := [7]) #[false, false, false, false, false, false, false, false] (by kernel_rfl) rfl rfl ⟨(blk_cell BK113.out 0).trans rfl, (blk_cell BK113.out 1).trans rfl⟩ (fun hHeld => ?_); refine with_tabW clean_made.tab5 clean_made.bits5 (fun HT_ HW_ => ?_)
              generalize wr.drew = w16 at HO_114001 BK111 BK112 BK113 HB hHeld ⊢
              refine pure_ (i := 0) (N := some 17) (v := ?_) (a' := ?_) #[true, false, false, false, false, false, false, false] rfl rfl (any_of HT_.out (by kernel_rfl)) (fun _ _ _ h => h) (Or.inl ⟨by rfl, ?_⟩) ?_ ?_
              rotate_left
              · intro w'
                go_simp
                with_reducible rfl
              rotate_left
              · simp only [Act.put, List.setIfInBounds_toArray, List.set_cons_zero, List.set_cons_succ, i64_w, i32_w]
                rfl
              refine pure_ (i := 2) (N := some 19) (v := ?_) (a' := ?_) #[true, false, true, false, false, false, false, false] rfl rfl (any_of HT_.out (by kernel_rfl)) (fun _ _ _ h => h) (Or.inl ⟨by rfl, ?_⟩) ?_ ?_
              rotate_left
              · intro w'
                go_simp
                with_reducible rfl
              rotate_left
              · simp only [Act.put, List.setIfInBounds_toArray, List.set_cons_zero, List.set_cons_succ, i64_w, i32_w]
                rfl
              refine take_ (i := 1) (N := some 18) (v := ?_) (a' := ?_) #[true, true, true, false, false, false, false, false] rfl rfl (take_ofW HT_.out HW_.out (by kernel_rfl)) (fun _ _ _ h => h) (Or.inl ⟨by rfl, ?_⟩) hHeld ?_ ?_
              rotate_left
              · rintro w' ⟨s0, s1⟩
                go_simp
                with_reducible rfl
              rotate_left
              · simp only [Act.put, List.setIfInBounds_toArray, List.set_cons_zero, List.set_cons_succ, i64_w, i32_w]
                rfl
              refine one_ (i := 3) (N := some 20) #[true, true, true, true, false, false, false, false] rfl rfl (one_of HT_.out (by kernel_rfl)) (by decide) (fun K hK => ?_)
              refine goes_ Try.func41 (by kernel_rfl) rfl #[.slice A114_0 (rd_L1 l1 x13_1).length c114_0] (by rfl) rfl rfl (by (try simp only [List.map_toArray, List.map_cons, List.map_nil]); first | done | rfl | (simp only [List.length_drop, List.length_take]; rfl)) ?_
              with_reducible refine (api_Clause_int.calls _ _ (rd_L1 l1 x13_1) t115 _ ?side1 ?side2 A14.out).mono ?_
              (case side1 => repeat (first | exact (Kd.C_below HR114_0.out HB.out) | (with_reducible refine Kd.C_alloc ?_ _) | (with_reducible refine Kd.C_drewN ?_ _) | (with_reducible refine Kd.C_drew ?_)))
              (case side2 => exact HC114_0.out)
              rintro e w17 ⟨v116, rfl, ho0, hb⟩
              refine ⟨_, rfl, ?_⟩
              have n0_ := Aside0.mk (Kd.S_elder' (by (with_reducible repeat (first | apply Kd.S_alloc | apply Kd.S_drewN | apply Kd.S_drew)); exact HO_114001.out) (Kd.R_base ho0) hb)
              have n1_ := Aside0.mk (Kd.R_lower ho0 (below_size (by repeat (first | (with_reducible first | exact HB.out | apply below_alloc | apply pw_below_drewN | apply below_drew1 | refine below_set ?_ GE111.out | refine below_set ?_ GE112.out | refine below_set ?_ GE113.out) | exact HB.out))))
              have n2_ := Aside0.mk (blk_below (g := gb111) (o := .cells #[.int .i64 a0_0, .slice A0_1 l0_1.length c0_1] 24 (0, 0)) (by (with_reducible repeat (first | refine blk_drewN ?_ _ | refine blk_drew ?_ | refine blk_alloc ?_ _)); exact BK111.out) hb)
              have n3_ := Aside0.mk (blk_below (g := gb112) (o := .cells #[.int .i64 0, .slice none 0 0] 24 (0, 0)) (by (with_reducible repeat (first | refine blk_drewN ?_ _ | refine blk_drew ?_ | refine blk_alloc ?_ _)); exact BK112.out) hb)
              have n4_ := Aside0.mk (blk_below (g := gb113) (o := .cells #[.int .i64 a0_0, u114001] 24 (0, 0)) (by (with_reducible repeat (first | refine blk_drewN ?_ _ | refine blk_drew ?_ | refine blk_alloc ?_ _)); exact BK113.out) hb)
              have n5_ := Aside0.mk (below_step (by repeat (first | (with_reducible first | exact HB.out | apply below_alloc | apply pw_below_drewN | apply below_drew1 | refine below_set ?_ GE111.out | refine below_set ?_ GE112.out | refine below_set ?_ GE113.out) | exact HB.out)) hb)
              clear HO_114001
              clear BK111
              clear BK112
              clear BK113
              clear HB
              have HO_114001 := n0_
              have HO117 := n1_
              have BK111 := n2_
              have BK112 := n3_
              have BK113 := n4_
              have HB := n5_
              clear n0_ n1_ n2_ n3_ n4_ n5_
              (try clear hb)
              (try clear hb2)
              (try clear hk)
              (try clear hi)
              (try clear ho0)
              obtain ⟨Ao19, co19, eo19⟩ := Kd.R_slice HO117.out
              (first | subst eo19 | (injection eo19 with f1_ f2_ f3_; have f4_ := f1_.symm; have f5_ := f3_.symm; clear f1_ f2_ f3_; subst f4_; subst f5_))
              refine hK.out _ _ ⟨(blk_cell BK113.out 0).trans rfl, (blk_cell BK113.out 1).trans rfl⟩ (fun hHeld => ?_)
              clear hK K
              refine norm_ (a' := ?_) ?_ ?_
              rotate_left
              · show Act.put _ (some 20) _ = _
                simp only [Act.put, List.setIfInBounds_toArray, List.set_cons_zero, List.set_cons_succ, i64_w, i32_w]
                rfl
              refine one_ (i := 4) (N := some 21) #[true, true, true, true, true, false, false, false] rfl rfl (one_of HT_.out (by kernel_rfl)) (by decide) (fun K hK => ?_)
              refine value_ (w1 := ?_) (v := ?_) (by rfl) rfl ?_ ?_
              rotate_left 2
              · go_simp
                constructor
                · rfl
                · rfl
              refine hK.out _ _ ⟨(blk_cell (blk_alloc BK113.out _) 0).trans rfl, (blk_cell (blk_alloc BK113.out _) 1).trans rfl⟩ (fun hHeld => ?_)
              clear hK K
              refine norm_ (a' := ?_) ?_ ?_
              rotate_left
              · show Act.put _ (some 21) _ = _
                simp only [Act.put, List.setIfInBounds_toArray, List.set_cons_zero, List.set_cons_succ, i64_w, i32_w]
                rfl
              refine one_ (i := 5) (N := some 22) #[true, true, true, true, true, true, false, false] rfl rfl (one_of HT_.out (by kernel_rfl)) (by decide) (fun K hK => ?_)
              refine Kd.S_append_step (Kd.slice 3 (Kd.int .i64)) (w0 := w) w.heap.size (by rfl) (.tmp 18) (.tmp 21) 22 43 (.slice none 0 0) 24 rfl Try.underlying22 info43 rfl (by decide) (by omega) u114001 x114001_1 t115 [.slice Ao19 t115.length co19] (fun _ => True) (fun k_ => some k_ = (.slice Ao19 t115.length co19 : Value).ownBlock) rfl rfl ?aP (fun k_ hk_ => ((Kd.R_mono (ok' := fun k_ => ((fun _ => True)) k_ ∧ some k_ ≠ (u114001 : Value).ownBlock) (Kd.R_apart' (HO117.out) (Kd.S_typed HO_114001.out) (by decide)) (fun k_ hk => ⟨trivial, hk.2⟩))).1 k_ hk_.symm) ?aF ?aO ?aB ?aS ?aL ?_
              (case aP => exact Kd.M_row (Kd.R_mono (Kd.R_tight rfl (Kd.R_mono (ok' := fun k_ => ((fun _ => True)) k_ ∧ some k_ ≠ (u114001 : Value).ownBlock) (Kd.R_apart' (HO117.out) (Kd.S_typed HO_114001.out) (by decide)) (fun k_ hk => ⟨trivial, hk.2⟩))) (fun _ h_ => h_)))
              (case aB => exact (by repeat (first | (with_reducible first | exact HB.out | apply below_alloc | apply pw_below_drewN | apply below_drew1 | refine below_set ?_ GE111.out | refine below_set ?_ GE112.out | refine below_set ?_ GE113.out) | exact HB.out)))
              (case aF => exact (fun _ _ => trivial))
              (case aO => exact (by (with_reducible repeat (first | apply Kd.S_alloc | apply Kd.S_drewN | apply Kd.S_drew)); exact Kd.S_mono HO_114001.out (fun k_ hk => ⟨trivial, fun e_ => hk.2 e_⟩)))
              (case aS => exact (below_size (by repeat (first | (with_reducible first | exact HB.out | apply below_alloc | apply pw_below_drewN | apply below_drew1 | refine below_set ?_ GE111.out | refine below_set ?_ GE112.out | refine below_set ?_ GE113.out) | exact HB.out))))
              (case aL => have := LMc15.out; omega)
              intro v119 w18 ho hb hg hat
              rw [← Ny118.out] at ho
              have n0_ := Aside0.mk (blk_grown (g := gb111) (o := .cells #[.int .i64 a0_0, .slice A0_1 l0_1.length c0_1] 24 (0, 0)) (by (with_reducible repeat (first | refine blk_drewN ?_ _ | refine blk_drew ?_ | refine blk_alloc ?_ _)); exact BK111.out) hg (Kd.S_ne HO_114001.out BK111.out (by decide)))
              have n1_ := Aside0.mk (blk_grown (g := gb112) (o := .cells #[.int .i64 0, .slice none 0 0] 24 (0, 0)) (by (with_reducible repeat (first | refine blk_drewN ?_ _ | refine blk_drew ?_ | refine blk_alloc ?_ _)); exact BK112.out) hg (Kd.S_ne HO_114001.out BK112.out (by decide)))
              have n2_ := Aside0.mk (blk_grown (g := gb113) (o := .cells #[.int .i64 a0_0, u114001] 24 (0, 0)) (by (with_reducible repeat (first | refine blk_drewN ?_ _ | refine blk_drew ?_ | refine blk_alloc ?_ _)); exact BK113.out) hg (Kd.S_ne HO_114001.out BK113.out (by decide)))
              have n3_ := Aside0.mk (hb)
              have n4_ := Aside0.mk (ho)
              clear BK111
              clear BK112
              clear BK113
              clear HB
              clear HO_114001
              clear HO117
              have BK111 := n0_
              have BK112 := n1_
              have BK113 := n2_
              have HB := n3_
              have HO120 := n4_
              clear n0_ n1_ n2_ n3_ n4_
              clear ho hb hg hat
              obtain ⟨Ao20, co20, eo20⟩ := Kd.S_slice HO120.out
              (first | subst eo20 | (injection eo20 with f1_ f2_ f3_; have f4_ := f1_.symm; have f5_ := f3_.symm; clear f1_ f2_ f3_; subst f4_; subst f5_))
              refine hK.out _ _ ⟨(blk_cell BK113.out 0).trans rfl, (blk_cell BK113.out 1).trans rfl⟩ (fun hHeld => ?_)
              clear hK K
              refine norm_ (a' := ?_) ?_ ?_
              rotate_left
              · show Act.put _ (some 22) _ = _
                simp only [Act.put, List.setIfInBounds_toArray, List.set_cons_zero, List.set_cons_succ, i64_w, i32_w]
                rfl
              refine pure_ (i := 6) (N := some 23) (v := ?_) (a' := ?_) #[true, true, true, true, true, true, true, false] rfl rfl (any_of HT_.out (by kernel_rfl)) (fun _ _ _ h => h) (Or.inl ⟨by rfl, ?_⟩) ?_ ?_
              rotate_left
              · intro w'
                go_simp
                with_reducible rfl
              rotate_left
              · simp only [Act.put, List.setIfInBounds_toArray, List.set_cons_zero, List.set_cons_succ, i64_w, i32_w]
                rfl
              refine last_ (i := 7) (N := none) #[true, true, true, true, true, true, true, true] rfl rfl (one_of HT_.out (by kernel_rfl)) (by decide) (fun K hK => ?_)
              have hs21 : w18.cell? ⟨gb113, 1, none⟩ = some (u114001) := (blk_cell BK113.out 1).trans rfl
              have hfs21 := blk_frozen BK113.out 1
              have hns21_0 := NB111_113.out
              have hns21_1 := NB112_113.out
              have hms21_0 := NB113_111.out
              have hms21_1 := NB113_112.out
              refine skip_ (w1 := ?_) (by rfl) rfl ?_ ?_
              rotate_left
              · go_simp
                rfl
              refine hK.out _ _ ?_
              clear hK K
              refine done_ (done_of HT_.out (by kernel_rfl)) ?_
              try go_wp2
              go_roundg k1
              case measure => have := HK1.out; omega
              case rel => exact ⟨(wrap64 (x13_1 + 1)), (y118), (.slice Ao20 y118.length co20), (by first | rfl | (simp; done) | (simp [*]; done)), H', ⟨by have := HK1.out; omega⟩, ⟨by (with_reducible repeat (first | apply Kd.S_alloc | apply Kd.S_drewN | apply Kd.S_drew)); exact Kd.S_mono (Kd.S_far (p := ⟨gb113, 1, none⟩) (Kd.S_types HO120.out BK113.out (by decide)) (fun _ hk => hk.2) (.slice Ao20 y118.length co20)) (fun _ hk => trivial)⟩, ⟨by (with_reducible repeat (first | refine blk_drewN ?_ _ | refine blk_drew ?_ | refine blk_alloc ?_ _)); refine blk_far ?_ NB111_113.out _; (with_reducible repeat (first | refine blk_drewN ?_ _ | refine blk_drew ?_ | refine blk_alloc ?_ _)); exact BK111.out⟩, ⟨by (with_reducible repeat (first | refine blk_drewN ?_ _ | refine blk_drew ?_ | refine blk_alloc ?_ _)); refine blk_far ?_ NB112_113.out _; (with_reducible repeat (first | refine blk_drewN ?_ _ | refine blk_drew ?_ | refine blk_alloc ?_ _)); exact BK112.out⟩, ⟨by (with_reducible repeat (first | refine blk_drewN ?_ _ | refine blk_drew ?_ | refine blk_alloc ?_ _)); refine blk_put (cs := #[.int .i64 a0_0, u114001]) ?_ 1 _ rfl; (with_reducible repeat (first | refine blk_drewN ?_ _ | refine blk_drew ?_ | refine blk_alloc ?_ _)); exact BK113.out⟩, ⟨by repeat (first | (with_reducible first | exact HB.out | apply below_alloc | apply pw_below_drewN | apply below_drew1 | refine below_set ?_ GE111.out | refine below_set ?_ GE112.out | refine below_set ?_ GE113.out) | exact HB.out)⟩⟩
            · rw [if_neg c15] at H
              exact absurd H (by simp)
          · rw [if_neg c13] at H
            exact absurd H (by simp)
        · rw [if_neg c12] at H
          exact absurd H (by simp)
      · rw [if_neg c11] at H
        have c11b0 : decide (x13_1 < (l1.length : Int)) = false := decide_eq_false c11
        clear c11
        simp only [Option.some.injEq, Prod.mk.injEq] at H
        obtain ⟨rfl, rfl⟩ := H
        have hnb22 := NB113_111.out
        have hnc22 := NB111_113.out
        have hnb23 := NB113_112.out
        have hnc23 := NB112_113.out
        have hcz24_0 : wr.cell? ⟨gb113, 0, none⟩ = some (.int .i64 a0_0) := (blk_cell BK113.out 0).trans rfl
        have hcz24_1 : wr.cell? ⟨gb113, 1, none⟩ = some (u114001) := (blk_cell BK113.out 1).trans rfl
        have hfz24_0 := blk_frozen BK113.out 0
        have hfz24_1 := blk_frozen BK113.out 1
        have hnb25 := NB112_111.out
        have hnc25 := NB111_112.out
        have hcz26_0 : wr.cell? ⟨gb112, 0, none⟩ = some (.int .i64 0) := (blk_cell BK112.out 0).trans rfl
        have hcz26_1 : wr.cell? ⟨gb112, 1, none⟩ = some (.slice none 0 0) := (blk_cell BK112.out 1).trans rfl
        have hfz26_0 := blk_frozen BK112.out 0
        have hfz26_1 := blk_frozen BK112.out 1
        obtain ⟨Ao27, co27, eo27⟩ := Kd.S_slice HO_114001.out
        subst eo27
        go_wp2
        refine bodyPost_ret (results_cell_row rfl _ _ gb112 24 #[.int .i64 a0_0, .slice Ao27 x114001_1.length co27] (0, 0) _ rfl (by (with_reducible repeat (first | refine blk_drewN ?_ _ | refine blk_drew ?_ | refine blk_alloc ?_ _)); refine blk_put (cs := #[.int .i64 a0_0, .slice none 0 0]) ?_ 1 _ rfl; (with_reducible repeat (first | refine blk_drewN ?_ _ | refine blk_drew ?_ | refine blk_alloc ?_ _)); refine blk_put (cs := #[.int .i64 0, .slice none 0 0]) ?_ 0 _ rfl; (with_reducible repeat (first | refine blk_drewN ?_ _ | refine blk_drew ?_ | refine blk_alloc ?_ _)); exact BK112.out) Try.underlying24 rfl (by kernel_rfl)) rfl ?_
        exact ⟨_, by first | rfl | (simp [errW_none, errW_some] <;> rfl) | (simp [*, errW_none, errW_some] <;> rfl), by (with_reducible repeat (first | apply Kd.S_alloc | apply Kd.S_drewN | apply Kd.S_drew)); exact Kd.S_mono (Kd.S_far (p := ⟨gb112, 1, none⟩) (Kd.S_far (p := ⟨gb112, 0, none⟩) (Kd.S_types HO_114001.out BK112.out (by decide)) (fun _ hk => hk.2) (.int .i64 a0_0)) (fun _ hk => hk.2) (.slice Ao27 x114001_1.length co27)) (fun _ hk => trivial), by repeat (first | (with_reducible first | exact HB.out | apply below_alloc | apply pw_below_drewN | apply below_drew1 | refine below_set ?_ GE111.out | refine below_set ?_ GE112.out | refine below_set ?_ GE113.out) | exact HB.out)⟩

end Go.Proofs.Ythhmjfjkbmmcaaa.GCS
/- clean.made: by its printed contract. -/
namespace Go.Proofs.Ythhmjfjkbmmcaaa
open Go.RowKit Go.Proofs.YthhmjfjkbmmcaaaW.PrintWords Go.Proofs.YthhmjfjkbmmcaaaW.PrintLast Go.Proofs.YthhmjfjkbmmcaaaW.PrintMore
open GCS
set_option linter.unusedVariables false
set_option linter.unusedSimpArgs false

theorem made_loop (a : Int) (ls : List (List Int)) (hl : ls.length ≤ 4398046511104) (hs : ∀ l ∈ ls, l.length ≤ 1099511627776) : ∀ k i, i ≤ ls.length → ls.length < k + i → clean_made.l0 k ls (ls.length : Int) (i : Int) a (ls.take i) = some (a, ls) := by
  intro k
  induction k with
  | zero => intro i h1 h2; omega
  | succ k ih =>
    intro i h1 h2
    unfold clean_made.l0
    by_cases hlt : i < ls.length
    · have hrd : rd_L1 ls (i : Int) = ls[i] := by simp [rd_L1, List.getD_eq_getElem?_getD, List.getElem?_eq_getElem hlt]
      have hc : api_Clause_int.f ls[i] = some ls[i] := by unfold api_Clause_int.f; rw [if_pos (hs _ (List.getElem_mem hlt))]
      have hw : wrap64 ((i : Int) + 1) = ((i + 1 : Nat) : Int) := by unfold wrap64; omega
      have ht : ls.take i ++ [ls[i]] = ls.take (i + 1) := by rw [List.take_add_one, List.getElem?_eq_getElem hlt]; rfl
      rw [if_pos (by omega), if_pos (by omega), if_pos (by omega), hrd, hc]
      simp only [Option.bind_some]
      rw [if_pos (by rw [List.length_take]; omega), hw, ht]
      exact ih (i + 1) (by omega) (by omega)
    · obtain rfl : i = ls.length := by omega
      rw [if_neg (by omega), List.take_length]
theorem made_calls (a : Int) (A0 : Option Addr) (c0 : Nat) (l0 : List (List Int)) (A : Option Addr) (c : Nat) (ls : List (List Int)) (w : World) (h0 : Kd.C kClause w A0 l0.length l0) (hc0 : l0.length ≤ c0) (h : Kd.C kClause w A ls.length ls) (hc : ls.length ≤ c) (hl : ls.length ≤ 4398046511104) (hs : ∀ l ∈ ls, l.length ≤ 1099511627776) :
    Calls Try.prog 23 #[.agg #[.int .i64 a, .slice A0 l0.length c0], .slice A ls.length c] w fun e w' => ∃ v1_ : Value, e = .returned (.agg #[.int .i64 a, v1_]) ∧ Kd.S kClause 43 w' w.heap.size (fun _ => True) v1_ ls ∧ Below w.heap.size w w' :=
  clean_made.calls (ls.length + 1) a A0 c0 l0 A c ls a ls w h0 hc0 h hc (by
    unfold clean_made.f
    exact made_loop a ls hl hs (ls.length + 1) 0 (Nat.zero_le _) (by omega))

end Go.Proofs.Ythhmjfjkbmmcaaa
/- slices.DeleteFunc of a literal's negation (the shelf's proof, laid by hand); slices.IndexFunc, ContainsFunc over clauses. -/
namespace Go.Proofs.Ythhmjfjkbmmcaaa
open Go.RowKit Go.Proofs.YthhmjfjkbmmcaaaW.PrintWords Go.Proofs.YthhmjfjkbmmcaaaW.PrintLast Go.Proofs.YthhmjfjkbmmcaaaW.PrintMore
open Go.Shelf Go.Sort
set_option linter.unusedVariables false
set_option linter.unusedSimpArgs false

/-- What a predicate over clauses answers at each clause of a row, in every later world. -/
def PredRows (P : Program) (g : Nat) (lb : Array Value) (ls : List (List Int)) (p : List Int → Bool) (w : World) : Prop :=
  ∀ (l : List Int), l ∈ ls → ∀ W A c, Below w.heap.size w W → l.length ≤ c → Kd.C (Kd.int .i64) W A l.length l → Calls P g (#[.slice A l.length c] ++ lb) W fun e w' => e = .returned (.bool (p l)) ∧ Below W.heap.size W w'
def hitAt (p : List Int → Bool) (ls : List (List Int)) : Nat → Bool := fun i => p (ls.getD i [])

set_option maxHeartbeats 2000000 in
theorem indexFunc_53 (g : Nat) (lb : Array Value) (eg : ∀ args w, (callFunc g args).run Try.prog w = .ok (.enter g args) w)
    (A : Option Addr) (c : Nat) (ls : List (List Int)) (p : List Int → Bool) (w : World) (hr : Kd.C kClause w A ls.length ls) (hp : PredRows Try.prog g lb ls p w) :
    Calls Try.prog 53 #[.slice A ls.length c, .func (.func g) #[] lb] w fun e w' => e = .returned (.int .i64 (firstIdx (hitAt p ls) ls.length)) ∧ Below w.heap.size w w' := by
  have hmax : ls.length ≤ 9223372036854775807 := hr.2.1
  have HP := Aside0.mk hp
  have HR := Aside0.mk hr
  obtain ⟨n, hn⟩ : ∃ n, n = ls.length := ⟨_, rfl⟩
  have HN := Aside0.mk hn
  rw [← hn] at hmax HR ⊢
  obtain ⟨q, hq⟩ : ∃ q, q = hitAt p ls := ⟨_, rfl⟩
  have HQ := Aside0.mk hq
  rw [← hq]
  have H0 := Aside0.mk (show firstFrom q n (n + 1) 0 = firstIdx q n from rfl)
  clear hp hr hn hq
  go_enter Try.func53, Try.ntmps53
  go_wp2
  go_loopg [5, 8] (n + 1) (fun kq v5 v8 w' => ∃ i : Nat, v8 = .int .i64 (i : Int) ∧ Aside0 (firstFrom q n kq i = firstIdx q n) ∧ i ≤ n ∧ Aside0 (n < kq + i) ∧ Aside0 (Below w.heap.size w w'))
  case atStart => exact ⟨0, rfl, H0, Nat.zero_le _, ⟨by omega⟩, ⟨Below.refl _ _⟩⟩
  case round =>
    clear H0
    obtain ⟨i, rfl, HF, hi, HK, HB⟩ := hrel
    cases gk with
    | zero => exact absurd HK.out (by omega)
    | succ k =>
      have hf := HF.out
      clear HF
      simp only [firstFrom] at hf
      by_cases hlt : i < n
      · rw [if_pos hlt] at hf
        obtain ⟨ad, A0, c0, l, e, hl, hcell, hlc, hC⟩ := at_rows (Kd.C_below HR.out HB.out) i hlt
        cases e
        have hqi : q i = p l := by rw [HQ.out]; simp [hitAt, List.getD_eq_getElem?_getD, hl]
        rw [hqi] at hf
        have HF := Aside0.mk hf
        have HCALL := Aside0.mk (HP.out l (List.mem_of_getElem? hl) wr A0 c0 HB.out hlc hC)
        generalize l.length = m at hcell HCALL
        clear hf hl hlc hC hqi
        have hd : decide ((i : Int) < (n : Int)) = true := decide_eq_true (by omega)
        rcases hpl : p l with _ | _
        · have hf := HF.out
          rw [hpl, if_neg (by simp)] at hf
          rw [hpl] at HCALL
          clear HF
          have HF := Aside0.mk hf
          clear hf hpl
          go_wp2
          refine HCALL.out.mono ?_
          rintro e w1 ⟨rfl, hb1⟩
          have HB1 := Aside0.mk (below_then HB.out HB.out.size hb1)
          clear hb1
          go_wp2
          go_roundg k
          case measure => omega
          case rel => exact ⟨i + 1, by go_num, HF, by omega, ⟨by have := HK.out; omega⟩, HB1⟩
        · have hf := HF.out
          rw [hpl, if_pos rfl] at hf
          rw [hpl] at HCALL
          clear HF
          have HF := Aside0.mk hf
          clear hf hpl
          go_wp2
          refine HCALL.out.mono ?_
          rintro e w1 ⟨rfl, hb1⟩
          have HB1 := Aside0.mk (below_then HB.out HB.out.size hb1)
          clear hb1
          go_wp2
          go_ret
          exact ⟨by rw [← HF.out]; rfl, HB1.out⟩
      · rw [if_neg hlt] at hf
        have HF := Aside0.mk hf
        have hd : decide ((i : Int) < (n : Int)) = false := decide_eq_false (by omega)
        clear hf
        go_wp2
        go_ret
        exact ⟨by rw [← HF.out]; rfl, HB.out⟩

theorem contains_51 (g : Nat) (lb : Array Value) (eg : ∀ args w, (callFunc g args).run Try.prog w = .ok (.enter g args) w)
    (A : Option Addr) (c : Nat) (ls : List (List Int)) (p : List Int → Bool) (w : World) (hr : Kd.C kClause w A ls.length ls) (hp : PredRows Try.prog g lb ls p w) :
    Calls Try.prog 51 #[.slice A ls.length c, .func (.func g) #[] lb] w fun e w' => e = .returned (.bool (ls.any p)) ∧ Below w.heap.size w w' := by
  have HP := Aside0.mk hp
  have HR := Aside0.mk hr
  have HE : decide (firstIdx (hitAt p ls) ls.length ≥ 0) = ls.any p := by
    rw [Bool.eq_iff_iff, firstIdx, firstFrom_any _ _ _ _ (by omega), List.any_eq_true]
    constructor
    · rintro ⟨j, _, h2, h3⟩
      exact ⟨_, List.getElem_mem h2, by simpa [hitAt, List.getD_eq_getElem?_getD, List.getElem?_eq_getElem h2] using h3⟩
    · rintro ⟨x, hx, hf⟩
      obtain ⟨j, hj, rfl⟩ := List.mem_iff_getElem.1 hx
      exact ⟨j, Nat.zero_le _, hj, by simpa [hitAt, List.getD_eq_getElem?_getD, List.getElem?_eq_getElem hj] using hf⟩
  have HE := Aside0.mk HE
  clear hp hr
  go_enter Try.func51, Try.ntmps51
  go_wp2_with (go_at_call 53; refine (indexFunc_53 g lb eg A c ls p _ HR.out HP.out).mono ?_; rintro e w4 ⟨rfl, hb4⟩; have HB4 := Aside0.mk hb4; clear hb4)
  go_ret
  exact ⟨by rw [← HE.out]; rfl, HB4.out⟩

end Go.Proofs.Ythhmjfjkbmmcaaa
/- clean.needs, clean.kind. -/
namespace Go.Proofs.Ythhmjfjkbmmcaaa
open Go.RowKit Go.Proofs.YthhmjfjkbmmcaaaW.PrintWords Go.Proofs.YthhmjfjkbmmcaaaW.PrintLast Go.Proofs.YthhmjfjkbmmcaaaW.PrintMore
attribute [local go_sem] max2_int min2_int max_two min_two max_three min_three max_four min_four
set_option linter.unusedVariables false
set_option linter.unusedSimpArgs false

/-- Is a literal of another variable true. -/
def trueAt (g : Int) (m : List Bool) (x : Int) : Bool := (vr x != g) && (rdOf false m (vr x - 1) == decide (x > 0))
set_option maxHeartbeats 1000000 in
theorem clo62_calls (b bm : Nat) (g x : Int) (vs : Value) (M : Option Addr) (cm : Nat) (m : List Bool) (w : World) (h0 : w.cell? ⟨b, 0, none⟩ = some (.int .i64 g)) (hm : w.cell? ⟨bm, 0, none⟩ = some (.slice M m.length cm)) (hr : Kd.C Kd.bool w M m.length m) (hx0 : x ≠ 0) (hx1 : -262144 ≤ x) (hx2 : x ≤ 262144) (hlen : vr x ≤ m.length) :
    Calls Try.prog 62 #[.int .i64 x, .pointer (some ⟨b, 0, none⟩), .pointer (some ⟨bm, 0, none⟩)] w fun e w' => e = .returned (.bool (trueAt g m x)) ∧ w = w' := by
  have HT := Aside0.mk (trueAt.eq_1 g m x)
  obtain ⟨q, hq⟩ : ∃ q, q = vr x := ⟨_, rfl⟩
  have hq1 : 1 ≤ q ∧ q ≤ 262144 := by rw [hq]; unfold vr; split <;> omega
  obtain ⟨ad, e, hc⟩ := Kd.at_bool hr (q - 1) (by omega) (by omega)
  cases e
  rw [show (q - 1).toNat = q.toNat - 1 by omega] at hc
  rw [← hq] at HT hlen
  have hmx : (if x < -x then -x else x) = q := by rw [hq]; rfl
  obtain ⟨y, hy⟩ : ∃ y, y = rdOf false m (q - 1) := ⟨_, rfl⟩
  rw [← hy] at hc HT
  obtain ⟨n, hn⟩ : ∃ n, n = m.length := ⟨_, rfl⟩
  rw [← hn] at hm hlen
  have HQ := Aside0.mk hq
  clear hr hy hn hq
  rw [HT.out]
  by_cases hqg : q = g
  · have hb1 : (q != g) = false := by simp [hqg]
    go_enter Try.func62, Try.ntmps62
    go_wp2
    go_ret
    exact ⟨by rw [hb1]; rfl, rfl⟩
  · have hb1 : (q != g) = true := by simpa using hqg
    go_enter Try.func62, Try.ntmps62
    go_wp2
    go_ret
    exact ⟨by rw [hb1]; rfl, rfl⟩

/-- What is asked of a literal of a clause of what went: it is one of the model's. -/
def InM (m : List Bool) (x : Int) : Prop := x ≠ 0 ∧ -262144 ≤ x ∧ x ≤ 262144 ∧ vr x ≤ m.length
def needc (g : Int) (m : List Bool) (c : List Int) : Bool := has c g && !c.any (trueAt g m)
def needsv (g : Int) (m : List Bool) (gl : List (List Int)) : Bool := gl.any (needc g m)

set_option maxHeartbeats 1000000 in
theorem clo61_calls (b bm : Nat) (g : Int) (A M : Option Addr) (ca cm : Nat) (c : List Int) (m : List Bool) (w : World) (h0 : w.cell? ⟨b, 0, none⟩ = some (.int .i64 g)) (hm : w.cell? ⟨bm, 0, none⟩ = some (.slice M m.length cm)) (hr : Kd.C Kd.bool w M m.length m) (hc : Kd.C (Kd.int .i64) w A c.length c) (hin : ∀ x ∈ c, InM m x) :
    Calls Try.prog 61 #[.slice A c.length ca, .pointer (some ⟨b, 0, none⟩), .pointer (some ⟨bm, 0, none⟩)] w fun e w' => e = .returned (.bool (needc g m c)) ∧ Below w.heap.size w w' := by
  have e62 : ∀ args w, (callFunc 62 args).run Try.prog w = .ok (.enter 62 args) w := enters_of Try.func62 (by kernel_rfl) rfl
  have hN := needc.eq_1 g m c
  have HH := has_calls A ca c g w hc
  have HP : PredRow Try.prog 62 #[.pointer (some ⟨b, 0, none⟩), .pointer (some ⟨bm, 0, none⟩)] (nums .i64 c) (fun j => trueAt g m (rd c (j : Int))) w := by
    intro j u hu W hW
    have hj : j < c.length := by have := (List.getElem?_eq_some_iff.1 hu).1; rwa [nums_length] at this
    have hrd : rd c (j : Int) = c[j] := by simp [rd, List.getD_eq_getElem?_getD, List.getElem?_eq_getElem hj]
    have : u = .int .i64 (rd c (j : Int)) := by
      simp [nums, List.getElem?_eq_getElem hj] at hu
      rw [← hu, hrd]
    subst this
    have hi := hin _ (List.getElem_mem hj)
    rw [← hrd] at hi
    refine (clo62_calls b bm g _ (.bool true) M cm m W (pw_cell_below hW h0) (pw_cell_below hW hm) (Kd.C_below hr hW) hi.1 hi.2.1 hi.2.2.1 hi.2.2.2).mono ?_
    rintro e w' ⟨rfl, rfl⟩
    exact ⟨rfl, Below.refl _ _⟩
  have HC := contains_38 _ _ e62 A c.length ca (nums .i64 c) _ w (nums_length _ _) (row1_ints hc) HP
  rw [firstIdx_any] at HC
  obtain ⟨n, hn⟩ : ∃ n, n = c.length := ⟨_, rfl⟩
  rw [← hn] at HH HC ⊢
  rcases hA : has c g with _ | _
  · rw [hA] at hN HH
    have H1 := Aside0.mk HH
    have HN := Aside0.mk hN
    clear HH HC HP hN hA hn hin hc hr e62
    rw [HN.out]
    go_enter Try.func61, Try.ntmps61
    go_wp2_with (go_at_call 40; refine H1.out.mono ?_; rintro e w4 ⟨rfl, rfl⟩)
    go_ret
    exact ⟨rfl, Below.refl _ _⟩
  · rw [hA] at hN HH
    rcases hX : c.any (trueAt g m) with _ | _
    all_goals rw [hX] at hN HC
    all_goals have H1 := Aside0.mk HH
    all_goals have HCF := Aside0.mk HC
    all_goals have HN := Aside0.mk hN
    all_goals clear HH HC HP hN hA hn hin hc hr e62 hX
    all_goals rw [HN.out]
    all_goals go_enter Try.func61, Try.ntmps61
    all_goals go_wp2_with (first | (go_at_call 40; refine H1.out.mono ?_; rintro e w4 ⟨rfl, rfl⟩) | (go_at_call 38; refine HCF.out.mono ?_; rintro e w5 ⟨rfl, hb5⟩; have HB5 := Aside0.mk hb5; clear hb5))
    all_goals go_ret
    all_goals exact ⟨rfl, HB5.out⟩

set_option maxHeartbeats 1000000 in
theorem needs_calls (g : Int) (G M : Option Addr) (cg cm : Nat) (gl : List (List Int)) (m : List Bool) (w : World) (hr : Kd.C Kd.bool w M m.length m) (hc : Kd.C kClause w G gl.length gl) (hin : ∀ c ∈ gl, ∀ x ∈ c, InM m x) :
    Calls Try.prog 36 #[.agg #[.int .i64 g, .slice G gl.length cg], .slice M m.length cm] w fun e w' => e = .returned (.bool (needsv g m gl)) ∧ Below w.heap.size w w' := by
  have e61 : ∀ args w, (callFunc 61 args).run Try.prog w = .ok (.enter 61 args) w := enters_of Try.func61 (by kernel_rfl) rfl
  have HCF : Aside0 (∀ (W : World) (b bm : Nat), Below w.heap.size w W → W.cell? ⟨b, 0, none⟩ = some (.int .i64 g) → W.cell? ⟨bm, 0, none⟩ = some (.slice M m.length cm) → Calls Try.prog 51 #[.slice G gl.length cg, .func (.func 61) #[] #[.pointer (some ⟨b, 0, none⟩), .pointer (some ⟨bm, 0, none⟩)]] W fun e w' => e = .returned (.bool (needsv g m gl)) ∧ Below W.heap.size W w') := ⟨fun W b bm hW h0 hm =>
    contains_51 61 #[.pointer (some ⟨b, 0, none⟩), .pointer (some ⟨bm, 0, none⟩)] e61 G cg gl (needc g m) W (Kd.C_below hc hW) (fun c hcl W' A' c' hW' _ hC' => clo61_calls b bm g A' M c' cm c m W' (pw_cell_below hW' h0) (pw_cell_below hW' hm) (Kd.C_below (Kd.C_below hr hW) hW') hC' (hin c hcl))⟩
  obtain ⟨n, hn⟩ : ∃ n, n = gl.length := ⟨_, rfl⟩
  obtain ⟨q, hq⟩ : ∃ q, q = m.length := ⟨_, rfl⟩
  rw [← hn, ← hq] at HCF
  rw [← hn, ← hq]
  have HB2 := Aside0.mk (show Below w.heap.size w ((w.alloc (.cells #[.int .i64 g, .slice G n cg] 29)).alloc (.cells #[.slice M q cm] 44)) from below_alloc (below_alloc (Below.refl _ _) _) _)
  have H1 := Aside0.mk (HCF.out _ w.heap.size (w.heap.size + 1) HB2.out (by rw [World.cell?_alloc_lt _ _ _ (by simp), cell_new]; rfl) (by
    have := cell_new (w.alloc (.cells #[.int .i64 g, .slice G n cg] 29)) #[.slice M q cm] 44 0
    rw [show (w.alloc (.cells #[.int .i64 g, .slice G n cg] 29)).heap.size = w.heap.size + 1 by simp] at this
    exact this))
  clear hr hc hin e61 HCF hn hq
  go_enter Try.func36, Try.ntmps36
  go_wp2_with (go_at_call 51; refine H1.out.mono ?_; rintro e w5 ⟨rfl, hb5⟩; have HB5 := Aside0.mk (below_then HB2.out HB2.out.size hb5); clear hb5)
  go_ret
  exact ⟨rfl, HB5.out⟩

end Go.Proofs.Ythhmjfjkbmmcaaa
/- clean.right. -/
namespace Go.Proofs.Ythhmjfjkbmmcaaa
open Go.RowKit Go.Proofs.YthhmjfjkbmmcaaaW.PrintWords Go.Proofs.YthhmjfjkbmmcaaaW.PrintLast Go.Proofs.YthhmjfjkbmmcaaaW.PrintMore
set_option linter.unusedVariables false
set_option linter.unusedSimpArgs false

theorem clo60_calls (b : Nat) (v x : Int) (w : World) (hc : w.cell? ⟨b, 0, none⟩ = some (.int .i64 v)) (hv0 : 0 ≤ v) (hv1 : v ≤ 262144) :
    Calls Try.prog 60 #[.int .i64 x, (.pointer (some ⟨b, 0, none⟩))] w fun e w' => e = .returned (.bool (badLit v x)) ∧ w = w' := by
  have hd0 : (x == 0) = decide (x = 0) := by rw [Bool.eq_iff_iff]; simp
  have HQ := Aside0.mk (show badLit v x = (decide (x = 0) || decide (x < -v) || decide (x > v)) by unfold badLit; rw [hd0])
  go_enter Try.func60, Try.ntmps60
  go_wp2
  all_goals go_ret
  all_goals exact ⟨by rw [HQ.out]; simp_all, rfl⟩

/-- May what went be, so far as this clause goes. -/
def rightc (v g : Int) (c : List Int) : Bool := (has c g || has c (-g)) && !c.any (badLit v)
def rightFrom (v g : Int) (l : List (List Int)) : Bool := l.all (rightc v g)

set_option maxRecDepth 100000 in
set_option maxHeartbeats 4000000 in
theorem right_calls (v g : Int) (Fv : Value) (G : Option Addr) (cg : Nat) (gl : List (List Int)) (w : World) (hr : Kd.C kClause w G gl.length gl) (hv1 : v ≤ 262144) (hg0 : 1 ≤ g) (hg1 : g ≤ v) (hmax : gl.length ≤ 1099511627776) (hF : Fv.cells.size = 1) (hF1 : Fv.oneCell' = true) (hls : ∀ l ∈ gl, l.length ≤ 1099511627776) :
    Calls Try.prog 33 #[.agg #[.int .i64 v, Fv], .agg #[.int .i64 g, .slice G gl.length cg]] w fun e w' => e = .returned (.bool (rightFrom v g gl)) ∧ Below w.heap.size w w' := by
  have HR := Aside0.mk hr
  obtain ⟨n, hn⟩ : ∃ n, n = gl.length := ⟨_, rfl⟩
  have HN := Aside0.mk hn
  rw [← hn] at hmax HR ⊢
  have e60 : ∀ args w, (callFunc 60 args).run Try.prog w = .ok (.enter 60 args) w := enters_of Try.func60 (by kernel_rfl) rfl
  have HE60 := Aside0.mk e60
  obtain ⟨R, hR⟩ : ∃ R, R = rightFrom v g gl := ⟨_, rfl⟩
  rw [← hR]
  have H0 := Aside0.mk (show R = rightFrom v g (gl.drop 0) from hR)
  clear hr hn e60 hR
  go_enter Try.func33, Try.ntmps33
  go_wp2
  obtain ⟨b2, hb2⟩ : ∃ b, b = w.heap.size := ⟨_, rfl⟩
  obtain ⟨b3, hb3⟩ : ∃ b, b = w.heap.size + 1 := ⟨_, rfl⟩
  obtain ⟨w2, hw2⟩ : ∃ w2, w2 = (w.alloc (.cells #[.int .i64 v, Fv] 24)).alloc (.cells #[.int .i64 g, .slice G n cg] 29) := ⟨_, rfl⟩
  have HB2 := Aside0.mk (show Below w.heap.size w w2 by rw [hw2]; exact below_alloc (below_alloc (Below.refl _ _) _) _)
  have HSZ := Aside0.mk HB2.out.size
  have HCV := Aside0.mk (show w2.cell? ⟨b2, 0, none⟩ = some (.int .i64 v) by rw [hw2, hb2, World.cell?_alloc_lt _ _ _ (by simp), cell_new]; rfl)
  have HCG := Aside0.mk (show w2.cell? ⟨b3, 0, none⟩ = some (.int .i64 g) by
    rw [hw2, hb3]
    have := cell_new (w.alloc (.cells #[.int .i64 v, Fv] 24)) #[.int .i64 g, .slice G n cg] 29 0
    rw [show (w.alloc (.cells #[.int .i64 v, Fv] 24)).heap.size = w.heap.size + 1 by simp] at this
    exact this)
  have HCR := Aside0.mk (Kd.C_below HR.out HB2.out)
  rw [← hb3, ← hb2, ← hw2]
  clear hw2 hb2 hb3
  go_loopg [6, 20] (n + 1) (fun kq v6 v20 w' => ∃ i : Nat, v20 = .int .i64 (i : Int) ∧ Aside0 (R = rightFrom v g (gl.drop i)) ∧ i ≤ n ∧ Aside0 (n < kq + i) ∧ Aside0 (Below w2.heap.size w2 w'))
  case atStart => exact ⟨0, rfl, H0, Nat.zero_le _, ⟨by omega⟩, ⟨Below.refl _ _⟩⟩
  case round =>
    clear H0
    obtain ⟨i, rfl, HRR, hi, HK, HB⟩ := hrel
    cases gk with
    | zero => exact absurd HK.out (by omega)
    | succ k =>
      have hr := HRR.out
      clear HRR
      by_cases hlt : i < n
      · obtain ⟨ad, A0, c0, c, e, hl, hcell, hlc, hC⟩ := at_rows (Kd.C_below HCR.out HB.out) i hlt
        cases e
        rw [List.drop_eq_getElem_cons (by have := HN.out; omega)] at hr
        have hgc : gl[i]'(by have := HN.out; omega) = c := by rw [List.getElem?_eq_getElem (by have := HN.out; omega)] at hl; exact Option.some.inj hl
        rw [hgc] at hr
        have hr' : R = (rightc v g c && rightFrom v g (gl.drop (i + 1))) := hr
        have hcv := pw_cell_below HB.out HCV.out
        have hcg := pw_cell_below HB.out HCG.out
        have HH1 := has_calls A0 c0 c g wr hC
        have HH2 := has_calls A0 c0 c (-g) wr hC
        have HP : PredRow Try.prog 60 #[.pointer (some ⟨b2, 0, none⟩)] (nums .i64 c) (fun j => badLit v (rd c (j : Int))) wr := by
          intro j u hu W hW
          have hj : j < c.length := by have := (List.getElem?_eq_some_iff.1 hu).1; rwa [nums_length] at this
          have : u = .int .i64 (rd c (j : Int)) := by
            simp [nums, List.getElem?_eq_getElem hj] at hu
            rw [← hu]; simp [rd, List.getD_eq_getElem?_getD, List.getElem?_eq_getElem hj]
          subst this
          refine (clo60_calls b2 v _ W (pw_cell_below hW hcv) (by omega) hv1).mono ?_
          rintro e w' ⟨rfl, rfl⟩
          exact ⟨rfl, Below.refl _ _⟩
        have HHC := contains_38 _ _ HE60.out A0 c.length c0 (nums .i64 c) _ wr (nums_length _ _) (row1_ints hC) HP
        rw [firstIdx_any] at HHC
        have HC := Aside0.mk HHC
        have hrc := rightc.eq_1 v g c
        rcases hA : has c g with _ | _
        all_goals rcases hBq : has c (-g) with _ | _
        all_goals rcases hX : c.any (badLit v) with _ | _
        all_goals rw [hA, hBq, hX] at hrc
        all_goals rw [hA] at HH1
        all_goals rw [hBq] at HH2
        all_goals rw [hX] at HC
        all_goals rw [hrc] at hr'
        all_goals obtain ⟨q, hq⟩ : ∃ q, q = c.length := ⟨_, rfl⟩
        all_goals rw [← hq] at hcell HH1 HH2 HC
        all_goals have HR2 := Aside0.mk hr'
        all_goals have H1 := Aside0.mk HH1
        all_goals have H2 := Aside0.mk HH2
        all_goals clear hr hr' hrc hA hBq hX HP HHC HH1 HH2 hC hl hgc hlc hq
        · go_wp2_with (first | (go_at_call 40; first | (refine H1.out.mono ?_; clear H1; rintro e w4 ⟨rfl, rfl⟩) | (refine H2.out.mono ?_; clear H2; rintro e w4 ⟨rfl, rfl⟩)))
          go_ret
          exact ⟨by rw [HR2.out]; rfl, below_then HB2.out HSZ.out HB.out⟩
        · go_wp2_with (first | (go_at_call 40; first | (refine H1.out.mono ?_; clear H1; rintro e w4 ⟨rfl, rfl⟩) | (refine H2.out.mono ?_; clear H2; rintro e w4 ⟨rfl, rfl⟩)))
          go_ret
          exact ⟨by rw [HR2.out]; rfl, below_then HB2.out HSZ.out HB.out⟩
        all_goals go_wp2_with (first | (go_at_call 40; first | (refine H1.out.mono ?_; clear H1; rintro e w4 ⟨rfl, rfl⟩) | (refine H2.out.mono ?_; clear H2; rintro e w4 ⟨rfl, rfl⟩)) | (go_at_call 38; refine HC.out.mono ?_; rintro e w5 ⟨rfl, hb5⟩; have HB5 := Aside0.mk (below_then HB.out HB.out.size hb5); clear hb5))
        · go_roundg k
          case measure => omega
          case rel => exact ⟨i + 1, by go_num, ⟨by rw [HR2.out]; rfl⟩, by omega, ⟨by have := HK.out; omega⟩, HB5⟩
        · go_ret
          exact ⟨by rw [HR2.out]; rfl, below_then HB2.out HSZ.out HB5.out⟩
        · go_roundg k
          case measure => omega
          case rel => exact ⟨i + 1, by go_num, ⟨by rw [HR2.out]; rfl⟩, by omega, ⟨by have := HK.out; omega⟩, HB5⟩
        · go_ret
          exact ⟨by rw [HR2.out]; rfl, below_then HB2.out HSZ.out HB5.out⟩
        · go_roundg k
          case measure => omega
          case rel => exact ⟨i + 1, by go_num, ⟨by rw [HR2.out]; rfl⟩, by omega, ⟨by have := HK.out; omega⟩, HB5⟩
        · go_ret
          exact ⟨by rw [HR2.out]; rfl, below_then HB2.out HSZ.out HB5.out⟩
      · obtain rfl : i = n := by omega
        have hr2 : R = true := by rw [hr, HN.out, List.drop_length]; rfl
        have HR2 := Aside0.mk hr2
        clear hr hr2
        go_wp2
        go_ret
        exact ⟨by rw [HR2.out]; rfl, below_then HB2.out HSZ.out HB.out⟩

end Go.Proofs.Ythhmjfjkbmmcaaa
/- clean.kind, clean.Back at one variable that went. -/
namespace Go.Proofs.Ythhmjfjkbmmcaaa
open Go.RowKit Go.Proofs.YthhmjfjkbmmcaaaW.PrintWords Go.Proofs.YthhmjfjkbmmcaaaW.PrintLast Go.Proofs.YthhmjfjkbmmcaaaW.PrintMore
set_option linter.unusedVariables false
set_option linter.unusedSimpArgs false

theorem kind_calls (g : Int) (G : Option Addr) (n cg : Nat) (w : World) (hn : n ≠ 1) (hmax : n ≤ 1099511627776) :
    Calls Try.prog 35 #[.agg #[.int .i64 g, .slice G n cg]] w fun e w' => e = .returned (.iface 67 (.agg #[.int .i64 g, .slice G n cg])) ∧ Below w.heap.size w w' := by
  have hb : ((n : Int) == 1) = false := by rw [beq_eq_false_iff_ne]; omega
  go_enter Try.func35, Try.ntmps35
  go_wp2
  go_ret
  exact ⟨rfl, below_alloc (Below.refl _ _) _⟩

theorem cell_alloc_keep {w : World} {a : Addr} {u : Value} {o : Obj} (h : w.cell? a = some u) : (w.alloc o).cell? a = some u := by rw [World.cell?_alloc_lt _ _ _ (World.block_lt_of_cell? w a h)]; exact h
theorem own_cellB {w : World} {base g n cap : Nat} {e : TypeId} {xs : List Bool} (h : w.ownsRow base e 1 (.slice (some ⟨g, 0, none⟩) n cap) n (xs.map Value.bool)) (i : Nat) (hi : i < n) : ∃ old, w.cell? ⟨g, i, none⟩ = some (.bool old) ∧ w.frozen? ⟨g, i, none⟩ = false := by
  obtain ⟨g', cap', hv, hbg, hlt, hnc, hcm, hl, hH⟩ := Lib.holds_of_ownsRow h (by simp)
  injection hv with hv1 _ hv3
  injection hv1 with hv1
  injection hv1 with hv1
  subst hv1
  obtain ⟨h1, h2⟩ := hH i (by simpa using (by omega : i < xs.length))
  rw [Nat.zero_add] at h1 h2
  exact ⟨_, h1, h2⟩
theorem own_setB {w : World} {base g n cap : Nat} {e : TypeId} {xs : List Bool} (h : w.ownsRow base e 1 (.slice (some ⟨g, 0, none⟩) n cap) n (xs.map Value.bool)) (i : Nat) {q : Int} (hq : i = (q - 1).toNat) (y : Bool) : (w.setCell ⟨g, i, none⟩ (.bool y)).ownsRow base e 1 (.slice (some ⟨g, 0, none⟩) n cap) n ((xs.set (q - 1).toNat y).map Value.bool) := by
  have := (h.stored i (.bool y)).1
  rw [List.map_set, ← hq]
  exact this
theorem as_lit (X : Value) (W : World) : (Instr.typeAssert (.iface 67 X) 63 65 true).run Try.prog W = .ok (.tuple #[.int .i64 0, .bool false]) W := by kernel_rfl
theorem as_var (X : Value) (W : World) : (Instr.typeAssert (.iface 67 X) 63 67 true).run Try.prog W = .ok (.tuple #[X, .bool true]) W := by kernel_rfl
theorem own_form_ne {w : World} {base n : Nat} {e : TypeId} {v : Value} {xs : List Value} (h : w.ownsRow base e 1 v n xs) (hne : v ≠ .slice none 0 0) : ∃ g cap, v = .slice (some ⟨g, 0, none⟩) n cap ∧ base ≤ g := by
  rcases h.2 with ⟨e0, _⟩ | ⟨g, cap, cur, e0, hb, _⟩
  · exact absurd e0 hne
  · exact ⟨g, cap, e0, hb⟩
theorem C_of_ownB {w : World} {base n : Nat} {e : TypeId} {A : Option Addr} {c : Nat} {xs : List Bool} (h : w.ownsRow base e 1 (.slice A n c) n (xs.map Value.bool)) (hl : n = xs.length) : Kd.bool.C w A xs.length xs := by
  subst hl
  exact (Kd.R_reads' (Kd.R_of_own (h1 := fun _ => rfl) (ok := fun _ => True) h (fun _ _ => trivial))).2.2
theorem infoBool : (Try.prog.info? 4).map (fun i => (i.zero, i.size, i.bytes)) = some (some (.bool false), 1, 1) := by kernel_rfl

set_option maxRecDepth 100000 in
set_option maxHeartbeats 8000000 in
theorem back_calls (v g : Int) (A G : Option Addr) (c cg bg bm cgo cm : Nat) (ls gl : List (List Int)) (m : List Bool) (w : World) (hf : Kd.C kClause w A ls.length ls) (hck : chk v ls = 0) (hgo : w.heap[bg]? = some (.cells #[.int .i64 g, .slice G gl.length cg] 29 (0, 0))) (hG : Kd.C kClause w G gl.length gl) (hm : Kd.C Kd.bool w (some ⟨bm, 0, none⟩) m.length m) (hlm : (m.length : Int) = v) (hv : v ≤ 262144) (hg0 : 1 ≤ g) (hg1 : g ≤ v) (hr : rightFrom v g gl = true) (hn1 : gl.length ≠ 1) (hglm : gl.length ≤ 1099511627776) (hgls : ∀ l ∈ gl, l.length ≤ 1099511627776) (hin : ∀ c ∈ gl, ∀ x ∈ c, InM m x) :
    Calls Try.prog 18 #[.agg #[.int .i64 v, .slice A ls.length c], .slice (some ⟨bg, 0, none⟩) 1 cgo, .slice (some ⟨bm, 0, none⟩) m.length cm] w fun e w' => ∃ v', e = .returned (.tuple #[v', .int .i64 0]) ∧ w'.ownsRow w.heap.size 4 1 v' m.length ((m.set (g - 1).toNat (needsv g m gl)).map Value.bool) ∧ Below w.heap.size w w' := by
  have hbgl : bg < w.heap.size := (Array.getElem?_eq_some_iff.1 hgo).1
  have HCK : Aside0 (∀ W, Below w.heap.size w W → Calls Try.prog 20 #[.agg #[.int .i64 v, .slice A ls.length c]] W fun e w' => e = .returned (.int .i64 0) ∧ Below W.heap.size W w') := ⟨fun W hW => by have := check_calls v A c ls W (Kd.C_below hf hW); rw [hck] at this; exact this⟩
  have HRT : Aside0 (∀ W, Below w.heap.size w W → Calls Try.prog 33 #[.agg #[.int .i64 v, .slice A ls.length c], .agg #[.int .i64 g, .slice G gl.length cg]] W fun e w' => e = .returned (.bool true) ∧ Below W.heap.size W w') := ⟨fun W hW => by have := right_calls v g (.slice A ls.length c) G cg gl W (Kd.C_below hG hW) hv hg0 hg1 hglm rfl rfl hgls; rw [hr] at this; exact this⟩
  have HC0 : Aside0 (∀ W, Below w.heap.size w W → W.cell? ⟨bg, 0, none⟩ = some (.int .i64 g) ∧ W.cell? ⟨bg, 1, none⟩ = some (.slice G gl.length cg)) := ⟨fun W hW => by
    have e0 : w.cell? ⟨bg, 0, none⟩ = some (.int .i64 g) := by unfold World.cell?; rw [hgo]; rfl
    have e1 : w.cell? ⟨bg, 1, none⟩ = some (.slice G gl.length cg) := by unfold World.cell?; rw [hgo]; rfl
    exact ⟨pw_cell_below hW e0, pw_cell_below hW e1⟩⟩
  have HCLN : Aside0 (∀ W, Below w.heap.size w W → Calls Try.prog 34 #[.slice (some ⟨bm, 0, none⟩) m.length cm] W fun e w' => ∃ v', e = .returned v' ∧ w'.ownsRow W.heap.size 4 1 v' m.length (m.map Value.bool) ∧ v' ≠ .slice none 0 0 ∧ Below W.heap.size W w') := ⟨fun W hW => by
    obtain ⟨i0, hi, hz0, hz1, hz2⟩ := info_parts infoBool
    exact Try.slices_Clone i0 (.bool false) 1 1 hi hz0 hz1 hz2 rfl (by omega) (fun w => Try.sizeOf4 w) bm 0 m.length cm (m.map Value.bool) W (by simp) (by unfold maxLen; omega) (by omega) (fun j u hu => by
      have hj : j < m.length := by have := (List.getElem?_eq_some_iff.1 hu).1; simpa using this
      obtain ⟨ad, e, hc⟩ := Kd.at_bool (Kd.C_below hm hW) (j : Int) (by omega) (by omega)
      injection e with e
      subst e
      rw [Int.toNat_natCast, add_plain] at hc
      rw [Nat.zero_add, hc]
      simp [List.getElem?_eq_getElem hj] at hu
      rw [← hu]
      simp [rdOf, List.getD_eq_getElem?_getD, List.getElem?_eq_getElem hj]) (fun u hu => by simp only [List.mem_map] at hu; obtain ⟨q, _, rfl⟩ := hu; rfl)⟩
  obtain ⟨n, hn⟩ : ∃ n, n = ls.length := ⟨_, rfl⟩
  obtain ⟨ng, hng⟩ : ∃ ng, ng = gl.length := ⟨_, rfl⟩
  obtain ⟨nm, hnm⟩ : ∃ nm, nm = m.length := ⟨_, rfl⟩
  rw [← hn] at HCK HRT
  rw [← hng] at HRT HC0
  rw [← hnm] at HCLN
  rw [← hn, ← hnm]
  obtain ⟨y, hy⟩ : ∃ y, y = needsv g m gl := ⟨_, rfl⟩
  rw [← hy]
  have HY := Aside0.mk hy.symm
  have HNN := Aside0.mk (And.intro hn (And.intro hng hnm))
  have HM := Aside0.mk hm
  have HG := Aside0.mk hG
  have HIN := Aside0.mk hin
  have hlm' : (nm : Int) = v := by rw [hnm]; exact hlm
  have hngn : ng ≠ 1 := by rw [hng]; exact hn1
  have hngm : ng ≤ 1099511627776 := by rw [hng]; exact hglm
  clear hf hck hgo hr hgls hn hng hnm hlm hm hG hin hn1 hglm hy
  go_enter Try.func18, Try.ntmps18
  go_wp2_with (go_at_call 20; refine (HCK.out _ (below_alloc (Below.refl _ _) _)).mono ?_; rintro e w1 ⟨rfl, hb1⟩; have HB1 := Aside0.mk (below_then (below_alloc (Below.refl w.heap.size w) _) (below_alloc (Below.refl w.heap.size w) _).size hb1); have HX1 := Aside0.mk (And.intro (pw_cell_below hb1 (show (w.alloc (.cells #[.int .i64 v, .slice A n c] 24)).cell? ⟨w.heap.size, 0, none⟩ = some (.int .i64 v) by rw [cell_new]; rfl)) (pw_cell_below hb1 (show (w.alloc (.cells #[.int .i64 v, .slice A n c] 24)).cell? ⟨w.heap.size, 1, none⟩ = some (.slice A n c) by rw [cell_new]; rfl))); clear hb1)
  go_loopg [25] 2 (fun kq v25 w' => ∃ i : Nat, v25 = .int .i64 (i : Int) ∧ i ≤ 1 ∧ 1 < kq + i ∧ Aside0 (w'.cell? ⟨w.heap.size, 0, none⟩ = some (.int .i64 v) ∧ w'.cell? ⟨w.heap.size, 1, none⟩ = some (.slice A n c)) ∧ Aside0 (Below w.heap.size w w'))
  case atStart => exact ⟨0, rfl, by omega, by omega, HX1, HB1⟩
  case round =>
    obtain ⟨i, rfl, hi, hk, HX, HB⟩ := hrel
    obtain ⟨hx0, hx1⟩ := HX.out
    cases gk with
    | zero => omega
    | succ k =>
      by_cases hlt : i < 1
      · obtain rfl : i = 0 := by omega
        obtain ⟨hc0, hc1⟩ := HC0.out _ HB.out
        have hy0 := cell_alloc_keep (o := .cells #[.int .i64 g, .slice G ng cg] 29) hx0
        have hy1 := cell_alloc_keep (o := .cells #[.int .i64 g, .slice G ng cg] 29) hx1
        go_wp2_with (go_at_call 33; refine (HRT.out _ (below_alloc HB.out _)).mono ?_; rintro e w2 ⟨rfl, hb2⟩; have HB2 := Aside0.mk (below_then (below_alloc HB.out _) (below_alloc HB.out _).size hb2); have HX2 := Aside0.mk (And.intro (pw_cell_below hb2 (cell_alloc_keep HX.out.1)) (pw_cell_below hb2 (cell_alloc_keep HX.out.2))); clear hb2)
        go_roundg k
        case measure => omega
        case rel => exact ⟨1, by go_num, by omega, by omega, HX2, HB2⟩
      · obtain rfl : i = 1 := by omega
        have HCL := Aside0.mk (HCLN.out _ HB.out)
        go_wp2_with (go_at_call 34; refine HCL.out.mono ?_; rintro e w2 ⟨v2, rfl, ho, hne, hb2⟩; obtain ⟨g2, cap2, rfl, hgb2⟩ := own_form_ne ho hne; have HO := Aside0.mk ho; have HGB := Aside0.mk hgb2; have HB2 := Aside0.mk (below_then HB.out HB.out.size hb2); clear ho hne hgb2 hb2)
        have HN : Aside0 (∀ W, Below w2.heap.size w2 W → Calls Try.prog 36 #[.agg #[.int .i64 g, .slice G gl.length cg], .slice (some ⟨g2, 0, none⟩) m.length cap2] W fun e w' => e = .returned (.bool (needsv g m gl)) ∧ Below W.heap.size W w') := ⟨fun W hW => needs_calls g G (some ⟨g2, 0, none⟩) cg cap2 gl m W (C_of_ownB (pw_own_below HO.out hW) HNN.out.2.2) (Kd.C_below (Kd.C_below HG.out HB2.out) hW) HIN.out⟩
        obtain ⟨hc0, hc1⟩ := HC0.out _ HB2.out
        rw [HY.out] at HN
        rw [← HNN.out.2.1, ← HNN.out.2.2] at HN
        have hgn : (g - 1).toNat < nm := by omega
        go_loopg [12] 3 (fun kq v12 w' => (v12 = .int .i64 0 ∧ kq = 3 ∧ w2 = w') ∨ (v12 = .int .i64 (-1) ∧ kq = 2 ∧ Aside0 (w'.ownsRow wr.heap.size 4 1 (.slice (some ⟨g2, 0, none⟩) nm cap2) nm ((m.set (g - 1).toNat y).map Value.bool)) ∧ Aside0 (Below w.heap.size w w')))
        case atStart => exact .inl ⟨rfl, rfl, rfl⟩
        case round =>
          rcases hrel with ⟨rfl, hkq, rfl⟩ | ⟨rfl, hkq, HO2, HB3⟩
          · cases gk with
            | zero => omega
            | succ kk =>
              have hal := fun W : World => as_lit (.agg #[.int .i64 g, .slice G ng cg]) W
              have hav := fun W : World => as_var (.agg #[.int .i64 g, .slice G ng cg]) W
              go_wp2_with (go_at_call 35; refine (kind_calls g G ng cg _ hngn hngm).mono ?_; rintro e w3 ⟨rfl, hb3⟩; have HK3 := Aside0.mk hb3; clear hb3)
              have hsum : IntKind.i64.wrap (g - 1) = g - 1 := by rw [IntKind.wrap_i64]; omega
              go_region_with (go_at_call 36; refine (HN.out _ (below_drew (below_alloc HK3.out _))).mono ?_; rintro e w5 ⟨rfl, hb5⟩; have HB5 := Aside0.mk (below_then (below_drew (below_alloc HK3.out _)) (below_drew (below_alloc HK3.out _)).size hb5); have HO5 := Aside0.mk (pw_own_below HO.out HB5.out); obtain ⟨old, hold, hfz⟩ := own_cellB HO5.out (g.toNat - 1) (by omega); have hq0 := pw_cell_below hb5 (show World.cell? _ ⟨w3.heap.size, 0, none⟩ = some (.int .i64 g) by show (w3.alloc _).cell? _ = _; rw [cell_new]; rfl); have hq1 := pw_cell_below hb5 (show World.cell? _ ⟨w3.heap.size, 1, none⟩ = some (.slice G ng cg) by show (w3.alloc _).cell? _ = _; rw [cell_new]; rfl); clear hb5)
              all_goals (go_wp2; go_roundg kk; (case measure => omega); (case rel => exact .inr ⟨by go_num, by omega, ⟨own_setB HO5.out (g.toNat - 1) (by omega) y⟩, ⟨(below_then HB2.out HB2.out.size HB5.out).grown (HO5.out.stored (g.toNat - 1) (.bool y)).2 (below_then HB2.out HB2.out.size HB5.out).size (by rintro k e; injection e with e; have := HGB.out; have := HB.out.size; omega)⟩⟩))
          · cases gk with
            | zero => omega
            | succ kk =>
              go_wp2
              go_ret2
              exact ⟨_, rfl, own_less HO2.out HB.out.size, HB3.out⟩

end Go.Proofs.Ythhmjfjkbmmcaaa
/- clean.Out where it takes a variable out. -/
namespace Go.Proofs.Ythhmjfjkbmmcaaa
open Go.RowKit Go.Proofs.YthhmjfjkbmmcaaaW.PrintWords Go.Proofs.YthhmjfjkbmmcaaaW.PrintLast Go.Proofs.YthhmjfjkbmmcaaaW.PrintMore
open GCS
set_option linter.unusedVariables false
set_option linter.unusedSimpArgs false

theorem chkFrom_good {v : Int} (hv : v ≤ 262144) : ∀ {ls : List (List Int)}, chkFrom v ls = 0 → ∀ l ∈ ls, Good l
  | [], _, l, hl => by simp at hl
  | c :: ls, h, l, hl => by
    simp only [chkFrom] at h
    split at h
    · omega
    · split at h
      · omega
      · rename_i h1 h2
        rcases List.mem_cons.1 hl with rfl | hl
        · refine ⟨by omega, fun x hx => ?_⟩
          have hb := (List.any_eq_false.1 ((Bool.not_eq_true _).mp h2)) x hx
          simp only [badLit, Bool.or_eq_true, beq_iff_eq, decide_eq_true_eq, not_or] at hb
          exact ⟨hb.1.1, by omega, by omega⟩
        · exact chkFrom_good hv h l hl
theorem chk_good {v : Int} {ls : List (List Int)} (h : chk v ls = 0) : 0 ≤ v ∧ v ≤ 262144 ∧ ls.length ≤ 524288 ∧ ∀ l ∈ ls, Good l := by
  unfold chk at h
  split at h
  · omega
  · split at h
    · omega
    · rename_i h1 h2
      exact ⟨by omega, by omega, by omega, chkFrom_good (by omega) h⟩

theorem blk_skip0 {w : World} {g g' : Nat} {o : Obj} (h : w.heap[g]? = some o) (hne : g ≠ g') (i : Nat) (u : Value) : (w.setCell ⟨g', i, none⟩ u).heap[g]? = some o := by
  rw [Below.heap_setCell w ⟨g', i, none⟩ u g hne]
  exact h
theorem out_end {w4 : World} {b4 b5 : Nat} {t4 t5 : TypeId} {a4 c4 a5 c5 : Value} (h4 : w4.heap[b4]? = some (.cells #[a4, c4] t4 (0, 0))) (h5 : w4.heap[b5]? = some (.cells #[a5, c5] t5 (0, 0))) (hne : b4 ≠ b5) (p q r s : Value) :
    ((((w4.setCell ⟨b4, 0, none⟩ p).setCell ⟨b4, 1, none⟩ q).setCell ⟨b5, 0, none⟩ r).setCell ⟨b5, 1, none⟩ s).heap[b4]? = some (.cells #[p, q] t4 (0, 0)) ∧ ((((w4.setCell ⟨b4, 0, none⟩ p).setCell ⟨b4, 1, none⟩ q).setCell ⟨b5, 0, none⟩ r).setCell ⟨b5, 1, none⟩ s).heap[b5]? = some (.cells #[r, s] t5 (0, 0)) ∧ (∀ k, k ≠ b4 → k ≠ b5 → ((((w4.setCell ⟨b4, 0, none⟩ p).setCell ⟨b4, 1, none⟩ q).setCell ⟨b5, 0, none⟩ r).setCell ⟨b5, 1, none⟩ s).heap[k]? = w4.heap[k]?) ∧ (∀ B, B ≤ b4 → B ≤ b5 → Below B w4 ((((w4.setCell ⟨b4, 0, none⟩ p).setCell ⟨b4, 1, none⟩ q).setCell ⟨b5, 0, none⟩ r).setCell ⟨b5, 1, none⟩ s)) := by
  refine ⟨?_, ?_, fun k h1 h2 => ?_, fun B h1 h2 => ((((Below.refl B w4).setCell h1 _).setCell h1 _).setCell h2 _).setCell h2 _⟩
  · exact blk_skip0 (blk_skip0 (blk_put (blk_put h4 0 p rfl) 1 q rfl) hne 0 r) hne 1 s
  · exact blk_put (blk_put (blk_skip0 (blk_skip0 h5 (Ne.symm hne) 0 p) (Ne.symm hne) 1 q) 0 r rfl) 1 s rfl
  · rw [Below.heap_setCell _ ⟨b5, 1, none⟩ s k h2, Below.heap_setCell _ ⟨b5, 0, none⟩ r k h2, Below.heap_setCell _ ⟨b4, 1, none⟩ q k h1, Below.heap_setCell _ ⟨b4, 0, none⟩ p k h1]
set_option maxRecDepth 100000 in
set_option maxHeartbeats 8000000 in
theorem out_full (k : Nat) (v x : Int) (A : Option Addr) (c : Nat) (ls r1 r3 : List (List Int)) (r2 : Int) (w : World) (hf : Kd.C kClause w A ls.length ls) (hc : ls.length ≤ c) (hck : chk v ls = 0) (hx0 : 1 ≤ x) (hx1 : x ≤ v) (h : clean_out.f k (tidyv ls) x = some (r1, r2, r3, true)) (hl1 : r1.length ≤ 4398046511104) (hs1 : ∀ l ∈ r1, l.length ≤ 1099511627776) :
    Calls Try.prog 8 #[.agg #[.int .i64 v, .slice A ls.length c], .int .i64 x] w fun e w' => ∃ v1 G cg, e = .returned (.tuple #[.agg #[.int .i64 v, v1], .agg #[.int .i64 r2, .slice G r3.length cg], .int .i64 0]) ∧ Kd.S kClause 43 w' w.heap.size (fun _ => True) v1 r1 ∧ (∃ Wb, w.heap.size ≤ Wb ∧ Kd.N (kOwn Wb) 43 w' Wb (fun k => w.heap.size ≤ k) (.slice G r3.length cg) r3) ∧ (∀ k, v1.ownBlock = some k → ∀ ad, G = some ad → k ≠ ad.block) ∧ Below w.heap.size w w' := by
  obtain ⟨hv0, hv1, hln, hgood⟩ := chk_good hck
  have HCK : Aside0 (∀ W, Below w.heap.size w W → Calls Try.prog 20 #[.agg #[.int .i64 v, .slice A ls.length c]] W fun e w' => e = .returned (.int .i64 0) ∧ Below W.heap.size W w') := ⟨fun W hW => by have := check_calls v A c ls W (Kd.C_below hf hW); rw [hck] at this; exact this⟩
  have HTD : Aside0 (∀ W, Below w.heap.size w W → Calls Try.prog 22 #[.slice A ls.length c] W fun e w' => ∃ v, e = .returned v ∧ Kd.V kClause 43 w' W.heap.size (fun k_ => (W.heap.size ≤ k_)) v (tidyv ls) ∧ Below W.heap.size W w') := ⟨fun W hW => tidy_calls A c ls W (Kd.C_below hf hW) hgood (by omega)⟩
  have HF := Aside0.mk hf
  have HH := Aside0.mk h
  obtain ⟨n, hn⟩ : ∃ n, n = ls.length := ⟨_, rfl⟩
  have HN := Aside0.mk hn
  rw [← hn] at HCK HTD hc ⊢
  obtain ⟨w0, hw0⟩ : ∃ w0, w0 = ((w.alloc (.cells #[.int .i64 v, .slice A n c] 24)).alloc (.cells #[.int .i64 0, .slice none 0 0] 24)).alloc (.cells #[.int .i64 0, .slice none 0 0] 29) := ⟨_, rfl⟩
  have HW0 := Aside0.mk hw0
  have HCB : Aside0 (∀ W, Below w0.heap.size w0 W → W.heap[w.heap.size]? = some (.cells #[.int .i64 v, .slice A n c] 24 (0, 0)) ∧ W.heap[w.heap.size + 1]? = some (.cells #[.int .i64 0, .slice none 0 0] 24 (0, 0)) ∧ W.heap[w.heap.size + 1 + 1]? = some (.cells #[.int .i64 0, .slice none 0 0] 29 (0, 0))) := ⟨fun W hW => by
    have hsz : w0.heap.size = w.heap.size + 3 := by rw [hw0]; simp
    rw [hW.block _ (by omega), hW.block _ (by omega), hW.block _ (by omega), hw0]
    refine ⟨?_, ?_, ?_⟩
    · rw [heap_alloc_old _ _ (by simp; omega), heap_alloc_old _ _ (by simp), heap_alloc_new]
    · rw [heap_alloc_old _ _ (by simp)]; exact heap_new2o _ _ _
    · have := heap_new2o (w.alloc (.cells #[.int .i64 v, .slice A n c] 24)) (.cells #[.int .i64 0, .slice none 0 0] 24) (.cells #[.int .i64 0, .slice none 0 0] 29)
      rwa [show (w.alloc (.cells #[.int .i64 v, .slice A n c] 24)).heap.size = w.heap.size + 1 by simp] at this⟩
  have HBW := Aside0.mk (show Below w.heap.size w w0 by rw [hw0]; exact below_alloc (below_alloc (below_alloc (Below.refl _ _) _) _) _)
  have HSZ := Aside0.mk HBW.out.size
  obtain ⟨p, hp⟩ : ∃ p, p = (tidyv ls).length := ⟨_, rfl⟩
  obtain ⟨q1, hq1⟩ : ∃ q, q = r1.length := ⟨_, rfl⟩
  obtain ⟨q3, hq3⟩ : ∃ q, q = r3.length := ⟨_, rfl⟩
  have HPQ := Aside0.mk (And.intro hp (And.intro hq1 hq3))
  rw [← hq3]
  have HOC : Aside0 (∀ (W W1 : World) (A2 : Option Addr) (c2 : Nat), p ≤ c2 → Kd.F kClause W (fun k_ => W1.heap.size ≤ k_) A2 p (tidyv ls) → Calls Try.prog 21 #[.slice A2 p c2, .int .i64 x] W fun e w' => ∃ A3 c3 G cg, e = .returned (.tuple #[.slice A3 q1 c3, .agg #[.int .i64 r2, .slice G q3 cg], .bool true]) ∧ q1 ≤ c3 ∧ q3 ≤ cg ∧ Kd.C kClause w' A3 q1 r1 ∧ Kd.N (kOwn W.heap.size) 43 w' W.heap.size (fun k_ => W1.heap.size ≤ k_ ∨ W.heap.size ≤ k_) (.slice G q3 cg) r3 ∧ Below W.heap.size W w') := ⟨fun W W1 A2 c2 h1 h2 => by
    rw [hp] at h1 h2 ⊢
    refine (clean_out.calls k (fun k_ => W1.heap.size ≤ k_) A2 c2 (tidyv ls) x r1 r2 r3 true W (Kd.V_mk h1 h2) h).mono ?_
    rintro e w' ⟨v0, v2, rfl, hV, hN, hB⟩
    obtain ⟨A3, c3, rfl, hl3, hF3⟩ := hV
    obtain ⟨G, cg, rfl⟩ := Kd.N_slice hN
    have hlg := (Kd.N_reads' hN).2.1
    have hCG := hN
    rw [hq1, hq3]
    exact ⟨A3, c3, G, cg, rfl, hl3, hlg, Kd.F_now hF3, hCG, hB⟩⟩
  have HMD : Aside0 (∀ (W : World) (A3 : Option Addr) (c3 : Nat), Below w.heap.size w W → q1 ≤ c3 → Kd.C kClause W A3 q1 r1 → Calls Try.prog 23 #[.agg #[.int .i64 v, .slice A n c], .slice A3 q1 c3] W fun e w' => ∃ v1_ : Value, e = .returned (.agg #[.int .i64 v, v1_]) ∧ Kd.S kClause 43 w' W.heap.size (fun _ => True) v1_ r1 ∧ Below W.heap.size W w') := ⟨fun W A3 c3 hW h1 h2 => by
    have hf' := Kd.C_below hf hW
    rw [hn] at hc ⊢
    rw [hq1] at h1 h2 ⊢
    exact made_calls v A c ls A3 c3 r1 W hf' hc h2 h1 hl1 hs1⟩
  clear hf hck hgood h hn hw0 hp hq1 hq3 hl1 hs1 hln
  go_enter Try.func8, Try.ntmps8
  go_wp2_with (first | (go_at_call 20; rw [← HW0.out]; refine (HCK.out _ HBW.out).mono ?_; rintro e w1 ⟨rfl, hb1⟩; have HB1 := Aside0.mk hb1; obtain ⟨k2, k4, k5⟩ := HCB.out _ hb1; have hcz0 := blk_cell k2 0; have hcz1 := blk_cell k2 1; have K4 := Aside0.mk k4; have K5 := Aside0.mk k5; clear hb1 k4 k5 k2) | (go_at_call 22; refine (HTD.out _ (below_then HBW.out HSZ.out HB1.out)).mono ?_; rintro e w2 ⟨v2, rfl, hV2, hb2⟩; obtain ⟨A2, c2, rfl, hl2, hF2⟩ := hV2; rw [← HPQ.out.1] at hl2 hF2 ⊢; have HF2 := Aside0.mk hF2; have HB2 := Aside0.mk (below_then HB1.out HB1.out.size hb2); clear hF2 hb2) | (go_at_call 21; refine (HOC.out _ _ A2 c2 hl2 HF2.out).mono ?_; rintro e w3 ⟨A3, c3, G, cg, rfl, hl3, hlg, hC3, hCG, hb3⟩; have HC3 := Aside0.mk hC3; have HCG := Aside0.mk hCG; have HB3 := Aside0.mk (below_then HB2.out HB2.out.size hb3); clear hC3 hCG hb3))
  obtain ⟨k2, k4, k5⟩ := HCB.out _ HB3.out
  have hy0 := cell_alloc_keep (o := .cells #[.int .i64 r2, .slice G q3 cg] 29) (show w3.cell? ⟨w.heap.size, 0, none⟩ = some (.int .i64 v) from blk_cell k2 0)
  have hy1 := cell_alloc_keep (o := .cells #[.int .i64 r2, .slice G q3 cg] 29) (show w3.cell? ⟨w.heap.size, 1, none⟩ = some (.slice A n c) from blk_cell k2 1)
  have hz0 : (w3.alloc (.cells #[.int .i64 r2, .slice G q3 cg] 29)).cell? ⟨w3.heap.size, 0, none⟩ = some (.int .i64 r2) := by rw [cell_new]; rfl
  have hz1 : (w3.alloc (.cells #[.int .i64 r2, .slice G q3 cg] 29)).cell? ⟨w3.heap.size, 1, none⟩ = some (.slice G q3 cg) := by rw [cell_new]; rfl
  have hw3 : w.heap.size + 3 ≤ w3.heap.size := by
    have h1 := HB3.out.size
    have h2 := congrArg (fun W : World => W.heap.size) HW0.out
    simp at h2
    omega
  have hn1 : ¬ (w3.heap.size = w.heap.size + 1) := by omega
  have hn2 : ¬ (w.heap.size + 1 = w3.heap.size) := by omega
  have hn3 : ¬ (w3.heap.size = w.heap.size + 1 + 1) := by omega
  have hn4 : ¬ (w.heap.size + 1 + 1 = w3.heap.size) := by omega
  have hn5 : ¬ (w3.heap.size = w.heap.size) := by omega
  have hn6 : ¬ (w.heap.size = w3.heap.size) := by omega
  clear k2 k4 k5 hcz0 hcz1
  go_region_with (go_at_call 23; refine (HMD.out _ A3 c3 (below_drew (below_alloc (below_then HBW.out HSZ.out HB3.out) _)) hl3 (Kd.C_below HC3.out (below_drew (below_alloc (Below.refl _ _) _)))).mono ?_; rintro e w4 ⟨v1, rfl, hS, hb4⟩; obtain ⟨A5, c5, rfl⟩ := Kd.R_slice (Kd.S_R hS); have HS := Aside0.mk hS; have HB4 := Aside0.mk (below_then (below_drew (below_alloc HB3.out _)) (below_drew (below_alloc HB3.out _)).size hb4); have HCG4 := Aside0.mk (Kd.N_below (Kd.N_below HCG.out (below_drew (below_alloc (Below.refl _ _) _))) hb4); have HGL := Aside0.mk (Kd.N_lt HCG.out); obtain ⟨k2, k4, k5⟩ := HCB.out _ HB4.out; have K4' := Aside0.mk k4; have K5' := Aside0.mk k5; have h40 : w4.cell? ⟨w.heap.size + 1, 0, none⟩ = some (.int .i64 0) := blk_cell k4 0; have h41 : w4.cell? ⟨w.heap.size + 1, 1, none⟩ = some (.slice none 0 0) := blk_cell k4 1; have f40 := blk_frozen k4 0; have f41 := blk_frozen k4 1; have h50 : w4.cell? ⟨w.heap.size + 1 + 1, 0, none⟩ = some (.int .i64 0) := blk_cell k5 0; have h51 : w4.cell? ⟨w.heap.size + 1 + 1, 1, none⟩ = some (.slice none 0 0) := blk_cell k5 1; have f50 := blk_frozen k5 0; have f51 := blk_frozen k5 1; have h20 : w4.cell? ⟨w.heap.size, 0, none⟩ = some (.int .i64 v) := blk_cell k2 0; have h21 : w4.cell? ⟨w.heap.size, 1, none⟩ = some (.slice A n c) := blk_cell k2 1; have hq0 := pw_cell_below hb4 (show World.cell? _ ⟨w3.heap.size, 0, none⟩ = some (.int .i64 r2) by show (w3.alloc _).cell? _ = _; rw [cell_new]; rfl); have hq1 := pw_cell_below hb4 (show World.cell? _ ⟨w3.heap.size, 1, none⟩ = some (.slice G q3 cg) by show (w3.alloc _).cell? _ = _; rw [cell_new]; rfl); clear hS hb4 k2 k4 k5)
  all_goals go_wp2
  all_goals (simp only [Act.put, List.getElem_toArray, List.getElem_cons_zero, List.getElem_cons_succ, List.setIfInBounds_toArray, List.set_cons_zero, List.set_cons_succ])
  all_goals (have HE := Aside0.mk (out_end K4'.out K5'.out (by omega) (.int .i64 v) (.slice A5 r1.length c5) (.int .i64 r2) (.slice G q3 cg)); have HSB := Aside0.mk HB1.out.size; have HSB2 := Aside0.mk HB2.out.size; have HWZ := Aside0.mk (show w0.heap.size = w.heap.size + 3 by rw [HW0.out]; simp))
  all_goals generalize hWF : World.setCell _ _ (Value.slice G q3 cg) = WF at HE ⊢
  all_goals clear hWF
  all_goals refine bodyPost_ret (results_list (rs := [.cell 4 24, .cell 5 29, .tmp 6]) rfl (by simp) (.cell (w.heap.size + 1) 24 #[.int .i64 v, .slice A5 r1.length c5] (0, 0) _ rfl HE.out.1 Try.underlying24 rfl (by kernel_rfl) (.cell (w.heap.size + 1 + 1) 29 #[.int .i64 r2, .slice G q3 cg] (0, 0) _ rfl HE.out.2.1 Try.underlying29 rfl (by kernel_rfl) (.tmp .nil)))) rfl ?_
  all_goals have hSZ4 := (below_alloc (Below.refl w3.heap.size w3) (.cells #[.int .i64 r2, .slice G q3 cg] 29)).size
  all_goals exact ⟨_, G, cg, rfl, Kd.S_lower (Kd.S_mono (Kd.S_step (Kd.S_bound HS.out) (fun k hk _ => HE.out.2.2.1 k (by have h1 := hk.2.1; have h2 : w3.heap.size ≤ k := Nat.le_trans (below_alloc (Below.refl w3.heap.size w3) _).size h1; omega) (by have h1 := hk.2.1; have h2 : w3.heap.size ≤ k := Nat.le_trans (below_alloc (Below.refl w3.heap.size w3) _).size h1; omega))) (fun k hk => trivial)) (Nat.le_trans (by omega : w.heap.size ≤ w3.heap.size) (below_alloc (Below.refl w3.heap.size w3) _).size), ⟨w2.heap.size, by have h1 := HSB.out; have h2 := HSB2.out; have h3 := HWZ.out; omega, Kd.N_mono (Kd.N_step HCG4.out (fun k hk _ => HE.out.2.2.1 k (by have h1 := HSB.out; have h2 := HSB2.out; have h3 := HWZ.out; omega) (by have h1 := HSB.out; have h2 := HSB2.out; have h3 := HWZ.out; omega))) (fun k hk => by have h1 := HSB.out; have h2 := HSB2.out; have h3 := HWZ.out; omega)⟩, (fun k hk ad hG e => by
    subst hG
    have h1 := Kd.S_base HS.out k hk
    have h2 := HGL.out ad.block rfl
    have h3 : w3.heap.size ≤ k := Nat.le_trans (below_alloc (Below.refl w3.heap.size w3) _).size h1
    omega), (below_then HBW.out HSZ.out HB4.out).trans (HE.out.2.2.2 w.heap.size (by omega) (by omega))⟩

theorem out_calls (k : Nat) (v x : Int) (A : Option Addr) (c : Nat) (ls r1 r3 : List (List Int)) (r2 : Int) (w : World) (hf : Kd.C kClause w A ls.length ls) (hc : ls.length ≤ c) (hck : chk v ls = 0) (hx0 : 1 ≤ x) (hx1 : x ≤ v) (h : clean_out.f k (tidyv ls) x = some (r1, r2, r3, true)) (hl1 : r1.length ≤ 4398046511104) (hs1 : ∀ l ∈ r1, l.length ≤ 1099511627776) :
    Calls Try.prog 8 #[.agg #[.int .i64 v, .slice A ls.length c], .int .i64 x] w fun e w' => ∃ v1 G cg, e = .returned (.tuple #[.agg #[.int .i64 v, v1], .agg #[.int .i64 r2, .slice G r3.length cg], .int .i64 0]) ∧ Kd.S kClause 43 w' w.heap.size (fun _ => True) v1 r1 ∧ Kd.C kClause w' G r3.length r3 ∧ r3.length ≤ cg ∧ Below w.heap.size w w' := by
  refine (out_full k v x A c ls r1 r3 r2 w hf hc hck hx0 hx1 h hl1 hs1).mono ?_
  rintro e w' ⟨v1, G, cg, rfl, hS, ⟨Wb, _, hN⟩, _, hB⟩
  exact ⟨v1, G, cg, rfl, hS, kOwn_C (Kd.N_reads' hN).2.2, (Kd.N_reads' hN).2.1, hB⟩

end Go.Proofs.Ythhmjfjkbmmcaaa
/- What taking a variable out comes to. -/
namespace Go.Proofs.Ythhmjfjkbmmcaaa
open Go.RowKit Go.Proofs.YthhmjfjkbmmcaaaW.PrintWords Go.Proofs.YthhmjfjkbmmcaaaW.PrintLast Go.Proofs.YthhmjfjkbmmcaaaW.PrintMore
set_option linter.unusedVariables false
set_option linter.unusedSimpArgs false

def withv (l : List (List Int)) (v : Int) : List (List Int) := l.filter fun c => has c v
def agnv (l : List (List Int)) (v : Int) : List (List Int) := l.filter fun c => !has c v && has c (-v)
def restv (l : List (List Int)) (v : Int) : List (List Int) := l.filter fun c => !has c v && !has c (-v)
def gonev (l : List (List Int)) (v : Int) : List (List Int) := l.filter fun c => has c v || has c (-v)
/-- A clause against others, one by one; none: one is too long. -/
def resA (v : Int) (a : List Int) : List (List Int) → List (List Int) → Option (List (List Int))
  | [], acc => some acc
  | b :: bs, acc => if (resv a b v).2 ≠ 0 then resA v a bs acc else if (resv a b v).1.length > 16384 then none else resA v a bs (acc ++ [(resv a b v).1])
def resB (v : Int) (bs : List (List Int)) : List (List Int) → List (List Int) → Option (List (List Int))
  | [], acc => some acc
  | a :: az, acc => (resA v a bs acc).bind (resB v bs az)
def outR (l : List (List Int)) (v : Int) : Option (List (List Int)) := resB v (agnv l v) (withv l v) (restv l v)
theorem filter_take {p : List Int → Bool} {l : List (List Int)} {i : Nat} {c : List Int} (h : l[i]? = some c) : (l.take (i + 1)).filter p = if p c then (l.take i).filter p ++ [c] else (l.take i).filter p := by
  rw [List.take_add_one, h]
  simp only [Option.toList_some, List.filter_append]
  by_cases hp : p c = true
  · simp [hp]
  · simp [hp]
theorem filter_take_le (p : List Int → Bool) (l : List (List Int)) (i : Nat) : ((l.take i).filter p).length ≤ i := Nat.le_trans (List.length_filter_le _ _) (List.length_take_le _ _)
theorem resv_len (a b : List Int) (v : Int) : (resv a b v).1.length ≤ a.length + b.length := by
  obtain ⟨_, _, h1, h2, _⟩ := @pairv_mem a b
  unfold resv
  split
  · simp
  · split
    · split
      · refine Nat.le_trans (nrm_length _) ?_
        rw [List.length_append]
        have := dropv_length (pairv a b).1 v
        have := dropv_length (pairv a b).2.1 (-v)
        omega
      · simp
    · simp
theorem resv_mem {a b : List Int} {v x : Int} (h : x ∈ (resv a b v).1) : x ∈ a ∨ x ∈ b := by
  obtain ⟨h1, h2, _⟩ := @pairv_mem a b
  unfold resv at h
  split at h
  · simp at h
  · split at h
    · split at h
      · rcases List.mem_append.1 (nrm_mem h) with h | h
        · exact .inl (h1 x (dropv_mem h))
        · exact .inr (h2 x (dropv_mem h))
      · simp at h
    · simp at h

end Go.Proofs.Ythhmjfjkbmmcaaa
/- lits.lacking, lits.Subsumes, lits.Strengthen. -/
namespace Go.Proofs.Ythhmjfjkbmmcaaa
open Go.RowKit Go.Proofs.YthhmjfjkbmmcaaaW.PrintWords Go.Proofs.YthhmjfjkbmmcaaaW.PrintLast Go.Proofs.YthhmjfjkbmmcaaaW.PrintMore
set_option linter.unusedVariables false
set_option linter.unusedSimpArgs false

end Go.Proofs.Ythhmjfjkbmmcaaa
/- lits.Strengthen. -/
namespace Go.Proofs.Ythhmjfjkbmmcaaa
open Go.RowKit Go.Proofs.YthhmjfjkbmmcaaaW.PrintWords Go.Proofs.YthhmjfjkbmmcaaaW.PrintLast Go.Proofs.YthhmjfjkbmmcaaaW.PrintMore
set_option linter.unusedVariables false
set_option linter.unusedSimpArgs false

end Go.Proofs.Ythhmjfjkbmmcaaa
/- clean.subsume. -/
namespace Go.Proofs.Ythhmjfjkbmmcaaa
open Go.RowKit Go.Proofs.YthhmjfjkbmmcaaaW.PrintWords Go.Proofs.YthhmjfjkbmmcaaaW.PrintLast Go.Proofs.YthhmjfjkbmmcaaaW.PrintMore
set_option linter.unusedVariables false
set_option linter.unusedSimpArgs false

/-- A clause of a row: where it lies, and by what it is read. -/
theorem at_rowsF {w : World} {ok : Nat → Prop} {A : Option Addr} {n : Nat} {ls : List (List Int)} (h : Kd.F kClause w ok A n ls) (i : Nat) (hi : i < n) :
    ∃ ad A0 c0 l, A = some ad ∧ ls[i]? = some l ∧ w.cell? (ad.add i) = some (.slice A0 l.length c0) ∧ l.length ≤ c0 ∧ Kd.F (Kd.int .i64) w ok A0 l.length l := by
  obtain ⟨ad, c, rfl, hcl, hK, hcc, _⟩ := Kd.F_get h ([] : List Int) (i : Int) (by omega) (by omega)
  rw [Int.toNat_natCast] at hK hcc
  have hl := Kd.F_len h
  have hg : ls[i]? = some (ls.getD i []) := by rw [List.getD_eq_getElem?_getD, List.getElem?_eq_getElem (by omega)]; rfl
  obtain ⟨A0, c0, rfl, hl0, hF⟩ := Kd.FK_slice_open hK
  have hc : ∀ j u, [Value.slice A0 (ls.getD i []).length c0][j]? = some u → w.cell? (ad.add (i * 1 + j)) = some u := hcc
  exact ⟨ad, A0, c0, _, rfl, hg, by have hq := hc 0 _ rfl; rwa [Nat.mul_one, Nat.add_zero] at hq, hl0, hF⟩

end Go.Proofs.Ythhmjfjkbmmcaaa
-- written by a program of this session's own (gprint.py), after the kit's print
namespace Go.Proofs.Ythhmjfjkbmmcaaa.GCO
open Go.RowKit Go.Proofs.YthhmjfjkbmmcaaaW.PrintWords Go.Proofs.YthhmjfjkbmmcaaaW.PrintLast Go.Proofs.YthhmjfjkbmmcaaaW.PrintMore
attribute [local go_sem] max2_int min2_int max_two min_two max_three min_three max_four min_four   -- for this text's walks alone
set_option linter.unusedVariables false
set_option linter.unusedSimpArgs false



def errW : Option Int → Value
  | none => .nilIface
  | some c => .iface 0 (.int .i64 c)
theorem errW_none : errW none = .nilIface := rfl
theorem errW_some (c : Int) : errW (some c) = .iface 0 (.int .i64 c) := rfl

theorem info3 : (Try.prog.info? 3).map (fun i => (i.zero, i.size, i.bytes)) = some (some (.int .i64 0), 1, 8) := by kernel_rfl
theorem info43 : (Try.prog.info? 43).map (fun i => (i.zero, i.size, i.bytes)) = some (some (.slice none 0 0), 1, 24) := by kernel_rfl
-- the values' own types
def rd_L1 (xs : List (List Int)) (i : Int) : (List Int) := xs.getD i.toNat ([] : List Int)
theorem at_L1 {w : World} {A : Option Addr} {n : Nat} {xs : List (List Int)} (h : Kd.C (Kd.slice 3 (Kd.int .i64)) w A n xs) (i : Int) (h0 : 0 ≤ i) (h1 : i < n) : ∃ ad A0 c0, A = some ad ∧ w.cell? (ad.add i.toNat) = some (.slice A0 (rd_L1 xs i).length c0) ∧ (rd_L1 xs i).length ≤ c0 ∧ (Kd.int .i64).C w A0 (rd_L1 xs i).length (rd_L1 xs i) := by
  obtain ⟨ad, c, e, _, hK, hc0⟩ := Kd.C_get h ([] : List Int) i h0 h1
  have hc : ∀ j u, c[j]? = some u → w.cell? (ad.add (i.toNat * 1 + j)) = some u := hc0
  obtain ⟨A0, c0, rfl, l0, g0⟩ := hK
  exact ⟨ad, A0, c0, e, by have hq := hc 0 _ rfl; rwa [Nat.mul_one, Nat.add_zero] at hq, l0, g0⟩

/-! #### struct type 29 -/
structure S29 where
  f0 : Int
  f1 : (List (List Int))
def z29 : S29 := ⟨(0 : Int), ([] : List (List Int))⟩
def k29 : Kd S29 := Kd.iso (Kd.pair (Kd.int .i64) (Kd.slice 43 (Kd.slice 3 (Kd.int .i64)))) (fun x : S29 => (x.f0, x.f1))
theorem k29_open {w : World} {x : S29} {cs : List Value} (h : k29.K w x cs) : ∃ A1 c1, cs = [.int .i64 x.f0, .slice A1 x.f1.length c1] ∧ x.f1.length ≤ c1 ∧ (Kd.slice 3 (Kd.int .i64)).C w A1 x.f1.length x.f1 := by
  obtain ⟨_, _, rfl, rfl, ⟨A1, c1, rfl, l1, g1⟩⟩ := h
  exact ⟨A1, c1, rfl, l1, g1⟩
theorem k29_mk (w : World) (x : S29) {A1 : Option Addr} {c1 : Nat} (l1 : x.f1.length ≤ c1) (g1 : (Kd.slice 3 (Kd.int .i64)).C w A1 x.f1.length x.f1) : k29.K w x [.int .i64 x.f0, .slice A1 x.f1.length c1] := ⟨[.int .i64 x.f0], [.slice A1 x.f1.length c1], rfl, rfl, ⟨A1, c1, rfl, l1, g1⟩⟩
def rd_T29 (xs : List S29) (i : Int) : S29 := xs.getD i.toNat z29
theorem at_T29 {w : World} {A : Option Addr} {n : Nat} {xs : List S29} (h : Kd.C k29 w A n xs) (i : Int) (h0 : 0 ≤ i) (h1 : i < n) : ∃ ad A1 c1, A = some ad ∧ w.cell? (ad.add (i.toNat * 2)) = some (.int .i64 (rd_T29 xs i).f0) ∧ w.cell? ⟨(ad.add (i.toNat * 2)).block, (ad.add (i.toNat * 2)).off + 1, none⟩ = some (.slice A1 (rd_T29 xs i).f1.length c1) ∧ (rd_T29 xs i).f1.length ≤ c1 ∧ (Kd.slice 3 (Kd.int .i64)).C w A1 (rd_T29 xs i).f1.length (rd_T29 xs i).f1 := by
  obtain ⟨ad, c, e, _, hK, hc0⟩ := Kd.C_get h z29 i h0 h1
  have hc : ∀ j u, c[j]? = some u → w.cell? (ad.add (i.toNat * 2 + j)) = some u := hc0
  obtain ⟨A1, c1, rfl, l1, g1⟩ := k29_open hK
  exact ⟨ad, A1, c1, e, hc 0 _ rfl, by rw [← add_field _ _ 1 (by omega)]; exact hc 1 _ rfl, l1, g1⟩

end Go.Proofs.Ythhmjfjkbmmcaaa.GCO
/- trestleref01.Abs, Put. -/
namespace Go.Proofs.Ythhmjfjkbmmcaaa
open Go.RowKit Go.Proofs.YthhmjfjkbmmcaaaW.PrintWords Go.Proofs.YthhmjfjkbmmcaaaW.PrintLast Go.Proofs.YthhmjfjkbmmcaaaW.PrintMore
set_option linter.unusedVariables false
set_option linter.unusedSimpArgs false

theorem abs_calls (x : Int) (w : World) (h : Sml x) : Calls Try.prog 93 #[.int .i64 x] w fun e w' => e = .returned (.int .i64 (vr x)) ∧ w = w' := by
  have h1 : -1099511627776 ≤ x := h.1
  have h2 : x ≤ 1099511627776 := h.2
  by_cases hc : x < 0
  · go_enter Try.func93, Try.ntmps93
    go_wp2
    go_ret
    exact ⟨by unfold vr; rw [if_pos (by omega)]; rfl, rfl⟩
  · go_enter Try.func93, Try.ntmps93
    go_wp2
    go_ret
    exact ⟨by unfold vr; rw [if_neg (by omega)]; rfl, rfl⟩

/-- How many literals of lower variables stand ahead. -/
def putAt (l : List Int) (x : Int) : Nat := (l.takeWhile fun y => decide (vr y < vr x)).length
/-- A literal put in its place. -/
def putv (l : List Int) (x : Int) : List Int × Bool :=
  if putAt l x < l.length ∧ vr (rd l (putAt l x : Int)) = vr x then (l, decide (rd l (putAt l x : Int) = x)) else (l.take (putAt l x) ++ [x] ++ l.drop (putAt l x), true)
theorem rd_nat {l : List Int} {i : Nat} (h : i < l.length) : rd l (i : Int) = l[i] := by simp [rd, List.getD_eq_getElem?_getD, List.getElem?_eq_getElem h]
theorem putAt_is {l : List Int} {x : Int} {i : Nat} (h1 : ∀ j, j < i → vr (rd l (j : Int)) < vr x) (h2 : i ≤ l.length) (h3 : i < l.length → ¬ vr (rd l (i : Int)) < vr x) : putAt l x = i := by
  unfold putAt
  induction l generalizing i with
  | nil => simp at h2; simp [h2]
  | cons y l ih =>
    cases i with
    | zero =>
      have := h3 (by simp)
      rw [List.takeWhile_cons_of_neg (by simpa [rd] using this)]
      rfl
    | succ i =>
      have h0 := h1 0 (by omega)
      rw [List.takeWhile_cons_of_pos (by simpa [rd] using h0), List.length_cons]
      rw [ih (i := i) (fun j hj => by have := h1 (j + 1) (by omega); simpa [rd] using this) (by simp at h2; omega) (fun hi => by have := h3 (by simp; omega); simpa [rd] using this)]

set_option maxRecDepth 100000 in
set_option maxHeartbeats 4000000 in
theorem put_calls (A : Option Addr) (c n : Nat) (l : List Int) (x : Int) (w : World) (hn : n = l.length) (hr : Kd.C (Kd.int .i64) w A l.length l) (hc : n ≤ c) (hs : ∀ y ∈ l, Sml y) (hx : Sml x) (hm : n ≤ 1099511627776) :
    Calls Try.prog 88 #[.slice A n c, .int .i64 x] w fun e w' => ∃ v, e = .returned (.tuple #[v, .bool (putv l x).2]) ∧ ((v = .slice A n c ∧ (putv l x).1 = l) ∨ w'.ownsRow w.heap.size 3 1 v (putv l x).1.length (nums .i64 (putv l x).1)) ∧ Below w.heap.size w w' := by
  have HR := Aside0.mk hr
  have HS := Aside0.mk hs
  have HX := Aside0.mk hx
  have HN := Aside0.mk hn
  have hall : Aside0 (∀ i, i < n → ∃ ad y, A = some ad ∧ rd l (i : Int) = y ∧ Sml y ∧ w.cell? (ad.add i) = some (.int .i64 y)) := ⟨fun i hi => by
    obtain ⟨ad, e, hcl⟩ := Kd.at_int HR.out (i : Int) (by omega) (by have := HN.out; omega)
    rw [Int.toNat_natCast] at hcl
    have hm := HS.out (rd l (i : Int)) (by rw [rd_nat (by have := HN.out; omega)]; exact List.getElem_mem _)
    exact ⟨ad, _, e, rfl, hm, hcl⟩⟩
  obtain ⟨q, hq⟩ : ∃ q, q = vr x := ⟨_, rfl⟩
  have HQ := Aside0.mk hq
  clear hr hs hx hn hq
  have HO0 : Aside0 ((w.alloc (.cells #[] 3)).ownsRow w.heap.size 3 1 (.slice (some ⟨w.heap.size, 0, none⟩) 0 0) 0 []) := ⟨World.ownsRow_made w #[] 0 (Nat.le_refl _) (Nat.zero_le _) (by simp)⟩
  go_enter Try.func88, Try.ntmps88
  go_wp2
  go_loop [6] (fun v => ∃ i : Nat, v = .int .i64 (i : Int) ∧ i ≤ n ∧ Aside0 (∀ j, j < i → vr (rd l (j : Int)) < vr x)) (fun v => n - (intOf v).toNat)
  case atStart => exact ⟨0, rfl, Nat.zero_le _, ⟨fun j hj => by omega⟩⟩
  case round =>
    obtain ⟨i, rfl, hi, HJ⟩ := hrel
    have KX := Aside0.mk (fun W => by have := abs_calls x W HX.out; rw [← HQ.out] at this; exact this : ∀ W, Calls Try.prog 93 #[.int .i64 x] W fun e w' => e = .returned (.int .i64 q) ∧ W = w')
    by_cases hlt : i < n
    · obtain ⟨ad, y, rfl, hy, hys, hcell⟩ := hall.out i hlt
      obtain ⟨p, hp⟩ : ∃ p, p = vr y := ⟨_, rfl⟩
      have KY := Aside0.mk (fun W => by have := abs_calls y W hys; rw [← hp] at this; exact this : ∀ W, Calls Try.prog 93 #[.int .i64 y] W fun e w' => e = .returned (.int .i64 p) ∧ W = w')
      have hd0 : decide (i < n) = true := decide_eq_true hlt
      have hd1 : decide ((i : Int) < (n : Int)) = true := decide_eq_true (by omega)
      have HY := Aside0.mk hy
      have HP := Aside0.mk hp
      clear hy hys hp
      by_cases h1 : p < q
      · go_wp2_with (first | (go_at_call_of 93 y; refine (KY.out _).mono ?_; rintro e w1 ⟨rfl, rfl⟩) | (go_at_call_of 93 x; refine (KX.out _).mono ?_; rintro e w1 ⟨rfl, rfl⟩))
        go_round
        case rel => exact ⟨i + 1, by go_num, by omega, ⟨fun j hj => by
          by_cases hji : j < i
          · exact HJ.out j hji
          · obtain rfl : j = i := by omega
            rw [HY.out, ← HP.out, ← HQ.out]; exact h1⟩⟩
        case measure => simp [intOf]; omega
      · have hk : putAt l x = i := putAt_is HJ.out (by have := HN.out; omega) (fun _ => by rw [HY.out, ← HP.out, ← HQ.out]; exact h1)
        by_cases h2 : p = q
        · have hpl := Aside0.mk (show putv l x = (l, decide (y = x)) by unfold putv; rw [hk, if_pos ⟨by have := HN.out; omega, by rw [HY.out, ← HP.out, ← HQ.out]; exact h2⟩, HY.out])
          have hb2 : (p == q) = true := beq_iff_eq.2 h2
          have hg1 : (0 : Int) ≤ (i : Int) := by omega
          have hg2 : (i : Int) < (n : Int) := by omega
          clear h2 hk
          go_wp2_with (first | (go_at_call_of 93 y; refine (KY.out _).mono ?_; rintro e w1 ⟨rfl, rfl⟩) | (go_at_call_of 93 x; refine (KX.out _).mono ?_; rintro e w1 ⟨rfl, rfl⟩))
          go_quiet (fail)
          go_wp2
          go_ret2
          rw [hpl.out]
          exact ⟨_, rfl, .inl ⟨rfl, rfl⟩, pw_below_drewN (Below.refl _ _) _⟩
        · have hb2 : (p == q) = false := beq_eq_false_iff_ne.2 h2
          have hno : ¬ (i < l.length ∧ vr (rd l (i : Int)) = vr x) := by rw [HY.out, ← HP.out, ← HQ.out]; exact fun h => h2 h.2
          clear h2
          have hpl := Aside0.mk (show putv l x = (l.take i ++ [x] ++ l.drop i, true) by unfold putv; rw [hk, if_neg hno])
          have hlen := Aside0.mk (show (l.take i ++ [x] ++ l.drop i).length = i + 1 + (n - i) by have := HN.out; simp; omega)
          have C1 : Aside0 (∀ W, Below w.heap.size w W → RowN W 1 (some ad) i (nums .i64 (l.take i))) := ⟨fun W hW => rowN_ints (by
            have := Kd.C_take (Kd.C_below HR.out hW) (show i ≤ l.length by have := HN.out; omega)
            rwa [show (l.take i).length = i by have := HN.out; simp; omega] at this)⟩
          have C2 : Aside0 (∀ W, Below w.heap.size w W → RowN W 1 (if c = i then (some ad) else Option.map (fun a => a.add i) (some ad)) (n - i) (nums .i64 (l.drop i))) := ⟨fun W hW => rowN_ints (by
            have := Kd.C_drop (Kd.C_below HR.out hW) (show i ≤ l.length by have := HN.out; omega) (show l.length ≤ c by have := HN.out; omega)
            rw [show (l.drop i).length = n - i by have := HN.out; simp; omega] at this
            have e : i * (Kd.int .i64).sz = i := by show i * 1 = i; omega
            rwa [e] at this)⟩
          clear hk hno hall
          by_cases hcap : c = i
          · exact absurd hcap (by omega)
          · rw [if_neg hcap, show Option.map (fun a => a.add i) (some ad) = some (ad.add i) from rfl] at C2
            go_wp2_with (first | (go_at_call_of 93 y; refine (KY.out _).mono ?_; rintro e w1 ⟨rfl, rfl⟩) | (go_at_call_of 93 x; refine (KX.out _).mono ?_; rintro e w1 ⟨rfl, rfl⟩) | (at_builtin; refine law_appends rfl (.tmp 45) (.tmp 48) 43 3 (.int .i64 0) 1 8 rfl Try.underlying43 infoInt rfl (by omega) (by omega) w.heap.size _ 0 [] rfl HO0.out _ _ _ _ rfl (C1.out _ (below_alloc (Below.refl w.heap.size w) _)) (by omega) (below_alloc (Below.refl w.heap.size w) _).size ?_; intro v1 w1 hown hg hat; have HO1 := Aside0.mk hown; have HB1 := Aside0.mk (Below.grown (below_alloc (Below.refl w.heap.size w) _) hg (below_alloc (Below.refl w.heap.size w) _).size (own_base HO0.out)); clear hown hg hat) | (at_builtin; refine law_appends rfl (.tmp 50) (.tmp 52) 43 3 (.int .i64 0) 1 8 rfl Try.underlying43 infoInt rfl (by omega) (by omega) w.heap.size _ _ _ rfl (own_alloc HO1.out _) _ 1 1 (nums .i64 [x]) rfl (rowN_nums (xs := [x]) (heap_alloc_new _ _) (by simp)) (by omega) (below_alloc HB1.out _).size ?_; intro v2 w2 hown hg hat; have HO2 := Aside0.mk hown; have HB2 := Aside0.mk (Below.grown (below_alloc HB1.out _) hg (below_alloc HB1.out _).size (own_base HO1.out)); clear hown hg hat) | (at_builtin; refine law_appends rfl (.tmp 54) (.tmp 57) 43 3 (.int .i64 0) 1 8 rfl Try.underlying43 infoInt rfl (by omega) (by omega) w.heap.size _ _ _ rfl HO2.out _ _ _ _ rfl (C2.out _ HB2.out) (by omega) HB2.out.size ?_; intro v3 w3 hown hg hat; have HO3 := Aside0.mk hown; have HB3 := Aside0.mk (Below.grown HB2.out hg HB2.out.size (own_base HO2.out)); clear hown hg hat))
            go_wp2
            go_ret2
            rw [hpl.out]
            refine ⟨_, rfl, .inr ?_, HB3.out⟩
            have := HO3.out
            rw [hlen.out, nums_append, nums_append]
            simpa using this
    · obtain rfl : i = n := by omega
      have hk : putAt l x = i := putAt_is HJ.out (by have := HN.out; omega) (fun h => by have := HN.out; omega)
      have hno : ¬ (i < l.length ∧ vr (rd l (i : Int)) = vr x) := by have := HN.out; omega
      have hd0 : decide (i < i) = false := decide_eq_false (by omega)
      have hd1 : decide ((i : Int) < (i : Int)) = false := decide_eq_false (by omega)
      have hpl := Aside0.mk (show putv l x = (l.take i ++ [x] ++ l.drop i, true) by unfold putv; rw [hk, if_neg hno])
      have hlen := Aside0.mk (show (l.take i ++ [x] ++ l.drop i).length = i + 1 + (i - i) by have := HN.out; simp; omega)
      have C1 : Aside0 (∀ W, Below w.heap.size w W → RowN W 1 A i (nums .i64 (l.take i))) := ⟨fun W hW => rowN_ints (by
        have := Kd.C_take (Kd.C_below HR.out hW) (show i ≤ l.length by have := HN.out; omega)
        rwa [show (l.take i).length = i by have := HN.out; simp; omega] at this)⟩
      have C2 : Aside0 (∀ W, Below w.heap.size w W → RowN W 1 (if c = i then A else Option.map (fun a => a.add i) A) (i - i) (nums .i64 (l.drop i))) := ⟨fun W hW => rowN_ints (by
        have := Kd.C_drop (Kd.C_below HR.out hW) (show i ≤ l.length by have := HN.out; omega) (show l.length ≤ c by have := HN.out; omega)
        rw [show (l.drop i).length = i - i by have := HN.out; simp; omega] at this
        have e : i * (Kd.int .i64).sz = i := by show i * 1 = i; omega
        rwa [e] at this)⟩
      clear hk hno hall
      rcases A with _ | ad
      · obtain rfl : i = 0 := by
          rcases Nat.eq_zero_or_pos i with h | h
          · exact h
          · obtain ⟨ad, e, _⟩ := HR.out.2.2 (by have := HN.out; omega)
            cases e
        have C2' : Aside0 (∀ W, Below w.heap.size w W → RowN W 1 none 0 (nums .i64 (l.drop 0))) := ⟨fun W hW => by have := C2.out W hW; by_cases hcap : c = 0 <;> simpa [hcap] using this⟩
        clear C2
        have C2 := C2'
        clear C2'
        go_wp2_with (first | (at_builtin; refine law_appends rfl (.tmp 45) (.tmp 48) 43 3 (.int .i64 0) 1 8 rfl Try.underlying43 infoInt rfl (by omega) (by omega) w.heap.size _ 0 [] rfl HO0.out _ _ _ _ rfl (C1.out _ (below_alloc (Below.refl w.heap.size w) _)) (by omega) (below_alloc (Below.refl w.heap.size w) _).size ?_; intro v1 w1 hown hg hat; have HO1 := Aside0.mk hown; have HB1 := Aside0.mk (Below.grown (below_alloc (Below.refl w.heap.size w) _) hg (below_alloc (Below.refl w.heap.size w) _).size (own_base HO0.out)); clear hown hg hat) | (at_builtin; refine law_appends rfl (.tmp 50) (.tmp 52) 43 3 (.int .i64 0) 1 8 rfl Try.underlying43 infoInt rfl (by omega) (by omega) w.heap.size _ _ _ rfl (own_alloc HO1.out _) _ 1 1 (nums .i64 [x]) rfl (rowN_nums (xs := [x]) (heap_alloc_new _ _) (by simp)) (by omega) (below_alloc HB1.out _).size ?_; intro v2 w2 hown hg hat; have HO2 := Aside0.mk hown; have HB2 := Aside0.mk (Below.grown (below_alloc HB1.out _) hg (below_alloc HB1.out _).size (own_base HO1.out)); clear hown hg hat) | (at_builtin; refine law_appends rfl (.tmp 54) (.tmp 57) 43 3 (.int .i64 0) 1 8 rfl Try.underlying43 infoInt rfl (by omega) (by omega) w.heap.size _ _ _ rfl HO2.out _ _ _ _ rfl (C2.out _ HB2.out) (by omega) HB2.out.size ?_; intro v3 w3 hown hg hat; have HO3 := Aside0.mk hown; have HB3 := Aside0.mk (Below.grown HB2.out hg HB2.out.size (own_base HO2.out)); clear hown hg hat))
        go_wp2
        go_ret2
        rw [hpl.out]
        refine ⟨_, rfl, .inr ?_, HB3.out⟩
        have := HO3.out
        rw [hlen.out, nums_append, nums_append]
        simpa using this
      · by_cases hcap : c = i
        · rw [if_pos hcap, Nat.sub_self] at C2
          subst hcap
          go_wp2_with (first | (at_builtin; refine law_appends rfl (.tmp 45) (.tmp 48) 43 3 (.int .i64 0) 1 8 rfl Try.underlying43 infoInt rfl (by omega) (by omega) w.heap.size _ 0 [] rfl HO0.out _ _ _ _ rfl (C1.out _ (below_alloc (Below.refl w.heap.size w) _)) (by omega) (below_alloc (Below.refl w.heap.size w) _).size ?_; intro v1 w1 hown hg hat; have HO1 := Aside0.mk hown; have HB1 := Aside0.mk (Below.grown (below_alloc (Below.refl w.heap.size w) _) hg (below_alloc (Below.refl w.heap.size w) _).size (own_base HO0.out)); clear hown hg hat) | (at_builtin; refine law_appends rfl (.tmp 50) (.tmp 52) 43 3 (.int .i64 0) 1 8 rfl Try.underlying43 infoInt rfl (by omega) (by omega) w.heap.size _ _ _ rfl (own_alloc HO1.out _) _ 1 1 (nums .i64 [x]) rfl (rowN_nums (xs := [x]) (heap_alloc_new _ _) (by simp)) (by omega) (below_alloc HB1.out _).size ?_; intro v2 w2 hown hg hat; have HO2 := Aside0.mk hown; have HB2 := Aside0.mk (Below.grown (below_alloc HB1.out _) hg (below_alloc HB1.out _).size (own_base HO1.out)); clear hown hg hat) | (at_builtin; refine law_appends rfl (.tmp 54) (.tmp 57) 43 3 (.int .i64 0) 1 8 rfl Try.underlying43 infoInt rfl (by omega) (by omega) w.heap.size _ _ _ rfl HO2.out _ _ _ _ rfl (C2.out _ HB2.out) (by omega) HB2.out.size ?_; intro v3 w3 hown hg hat; have HO3 := Aside0.mk hown; have HB3 := Aside0.mk (Below.grown HB2.out hg HB2.out.size (own_base HO2.out)); clear hown hg hat))
          go_wp2
          go_ret2
          rw [hpl.out]
          refine ⟨_, rfl, .inr ?_, HB3.out⟩
          have := HO3.out
          rw [hlen.out, nums_append, nums_append]
          simpa using this
        · rw [if_neg hcap, Nat.sub_self, show Option.map (fun a => a.add i) (some ad) = some (ad.add i) from rfl] at C2
          go_wp2_with (first | (at_builtin; refine law_appends rfl (.tmp 45) (.tmp 48) 43 3 (.int .i64 0) 1 8 rfl Try.underlying43 infoInt rfl (by omega) (by omega) w.heap.size _ 0 [] rfl HO0.out _ _ _ _ rfl (C1.out _ (below_alloc (Below.refl w.heap.size w) _)) (by omega) (below_alloc (Below.refl w.heap.size w) _).size ?_; intro v1 w1 hown hg hat; have HO1 := Aside0.mk hown; have HB1 := Aside0.mk (Below.grown (below_alloc (Below.refl w.heap.size w) _) hg (below_alloc (Below.refl w.heap.size w) _).size (own_base HO0.out)); clear hown hg hat) | (at_builtin; refine law_appends rfl (.tmp 50) (.tmp 52) 43 3 (.int .i64 0) 1 8 rfl Try.underlying43 infoInt rfl (by omega) (by omega) w.heap.size _ _ _ rfl (own_alloc HO1.out _) _ 1 1 (nums .i64 [x]) rfl (rowN_nums (xs := [x]) (heap_alloc_new _ _) (by simp)) (by omega) (below_alloc HB1.out _).size ?_; intro v2 w2 hown hg hat; have HO2 := Aside0.mk hown; have HB2 := Aside0.mk (Below.grown (below_alloc HB1.out _) hg (below_alloc HB1.out _).size (own_base HO1.out)); clear hown hg hat) | (at_builtin; refine law_appends rfl (.tmp 54) (.tmp 57) 43 3 (.int .i64 0) 1 8 rfl Try.underlying43 infoInt rfl (by omega) (by omega) w.heap.size _ _ _ rfl HO2.out _ _ _ _ rfl (C2.out _ HB2.out) (by omega) HB2.out.size ?_; intro v3 w3 hown hg hat; have HO3 := Aside0.mk hown; have HB3 := Aside0.mk (Below.grown HB2.out hg HB2.out.size (own_base HO2.out)); clear hown hg hat))
          go_wp2
          go_ret2
          rw [hpl.out]
          refine ⟨_, rfl, .inr ?_, HB3.out⟩
          have := HO3.out
          rw [hlen.out, nums_append, nums_append]
          simpa using this

end Go.Proofs.Ythhmjfjkbmmcaaa
/- trestleref01.Put, as the printed texts ask for it. -/
namespace Go.Proofs.Ythhmjfjkbmmcaaa.GCO
open Go.RowKit Go.Proofs.YthhmjfjkbmmcaaaW.PrintWords Go.Proofs.YthhmjfjkbmmcaaaW.PrintLast Go.Proofs.YthhmjfjkbmmcaaaW.PrintMore
set_option linter.unusedVariables false
set_option linter.unusedSimpArgs false

instance (x : Int) : Decidable (Sml x) := inferInstanceAs (Decidable (_ ∧ _))
def trestleref01_Put.f (l0 : List Int) (a1 : Int) : Option (List Int × Bool) := if (∀ y ∈ l0, Sml y) ∧ Sml a1 ∧ l0.length ≤ 1099511627776 then some (putv l0 a1) else none
theorem trestleref01_Put.calls (P0_ : Nat → Prop) (A0 : Option Addr) (c0 : Nat) (l0 : List Int) (a1 : Int) (r1 : List Int) (r2 : Bool) (w : World) (hs0 : Kd.V (Kd.int .i64) 3 w w.heap.size (fun k_ => P0_ k_) (.slice A0 l0.length c0) l0) (h : trestleref01_Put.f l0 a1 = some (r1, r2)) :
    Calls Try.prog 88 #[.slice A0 l0.length c0, .int .i64 a1] w fun e w' => ∃ v0_ : Value, e = .returned (.tuple #[v0_, .bool r2]) ∧ Kd.V (Kd.int .i64) 3 w' w.heap.size (fun k_ => (P0_ k_ ∨ w.heap.size ≤ k_)) v0_ r1 ∧ Below w.heap.size w w' := by
  unfold trestleref01_Put.f at h
  split at h
  · rename_i hb
    injection h with h
    obtain ⟨_, hlc, hF⟩ := Kd.V_at hs0
    refine (put_calls A0 c0 l0.length l0 a1 w rfl (Kd.F_now hF) hlc hb.1 hb.2.1 hb.2.2).mono ?_
    rw [h]
    rintro e w' ⟨v, rfl, ho, hB⟩
    refine ⟨v, rfl, ?_, hB⟩
    rcases ho with ⟨rfl, e1⟩ | ho
    · simp only at e1
      subst e1
      exact Kd.V_mk hlc (Kd.F_mono (Kd.F_below hF hB) (fun k hk => .inl hk))
    · have hR : Kd.R (Kd.int .i64) 3 w' w.heap.size (fun k => P0_ k ∨ w.heap.size ≤ k) v r1 := Kd.R_of_own (h1 := fun _ => rfl) ho (fun k hk => .inr (own_base ho k hk))
      obtain ⟨X, d, rfl⟩ := Kd.R_slice hR
      exact Kd.V_mk (Kd.R_reads' hR).2.1 (Kd.R_F hR)
  · cases h

end Go.Proofs.Ythhmjfjkbmmcaaa.GCO
