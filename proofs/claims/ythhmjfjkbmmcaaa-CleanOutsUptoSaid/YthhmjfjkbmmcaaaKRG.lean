/- The fixed whole: works. -/
import Derived.Test.YthhmjfjkbmmcaaaKRD
import Derived.Test.YthhmjfjkbmmcaaaKRF
import Derived.Test.YthhmjfjkbmmcaaaKRA
import Derived.Test.YthhmjfjkbmmcaaaKRB
-- written by a program of this session's own (gprint.py), after the kit's print
namespace Go.Proofs.Ythhmjfjkbmmcaaa.GCO
open Go.RowKit Go.Proofs.YthhmjfjkbmmcaaaW.PrintWords Go.Proofs.YthhmjfjkbmmcaaaW.PrintLast Go.Proofs.YthhmjfjkbmmcaaaW.PrintMore
attribute [local go_sem] max2_int min2_int max_two min_two max_three min_three max_four min_four   -- for this text's walks alone
set_option linter.unusedVariables false
set_option linter.unusedSimpArgs false

/-! ### trestlebook_CopyCnf: function 49 -/
def trestlebook_CopyCnf.l0 : Nat → Int → Int → List (List Int) → Int → List (List Int) → Option (Int × (List (List Int)))
  | 0, _, _, _, _, _ => none
  | k + 1, x4, x108000, x108001, x110000, x110001 => if x4 < (x108001.length : Int) then (if 0 ≤ x4 then ((trestlebook_CopyInts.f (rd_L1 x108001 x4)).bind fun t111 => (if x110001.length < 5864062014805 then (trestlebook_CopyCnf.l0 k (wrap64 (x4 + 1)) x108000 x108001 x110000 (x110001 ++ [t111])) else (none))) else (none)) else (some (x110000, x110001))
def trestlebook_CopyCnf.f (k : Nat) (a0_0 : Int) (l0_1 : List (List Int)) : Option (Int × (List (List Int))) := trestlebook_CopyCnf.l0 k 0 a0_0 l0_1 a0_0 ([] : List (List Int))
def trestlebook_CopyCnf.T5 : Bool × List (List Nat × List Nat) := (true, [([], []), ([0], [0]), ([], []), ([2], [2]), ([], []), ([3, 4], [3, 4]), ([5], [5]), ([6], [6]), ([7], [7]), ([1, 8, 7], [1, 8]), ([0, 1, 2, 3, 4, 5, 6, 7, 8, 9], []), ([10, 9, 9, 0, 1, 2, 3, 4, 5, 6, 7, 8, 9], [9, 10])])
def trestlebook_CopyCnf.B5 : List Nat := [0, 1, 0, 4, 0, 28, 60, 124, 252, 511, 1023, 2047]
theorem trestlebook_CopyCnf.tab5 : rtab .any (opsOf Try.f49 5) = trestlebook_CopyCnf.T5 := by kernel_rfl
theorem trestlebook_CopyCnf.bits5 : waitsOk trestlebook_CopyCnf.T5.2 trestlebook_CopyCnf.B5 = true := by kernel_rfl
set_option maxHeartbeats 8000000 in
set_option maxRecDepth 100000 in
theorem trestlebook_CopyCnf.calls (k : Nat) (a0_0 : Int) (A0_1 : Option Addr) (c0_1 : Nat) (l0_1 : List (List Int)) (r1 : Int) (r2 : List (List Int)) (w : World) (hr0_1 : Kd.C (Kd.slice 3 (Kd.int .i64)) w A0_1 l0_1.length l0_1) (hc0_1 : l0_1.length ≤ c0_1) (h : trestlebook_CopyCnf.f k a0_0 l0_1 = some (r1, r2)) :
    Calls Try.prog 49 #[.agg #[.int .i64 a0_0, .slice A0_1 l0_1.length c0_1]] w fun e w' => ∃ v1_ : Value, e = .returned (.agg #[.int .i64 r1, v1_]) ∧ Kd.S (Kd.slice 3 (Kd.int .i64)) 43 w' w.heap.size (fun _ => True) v1_ r2 ∧ Below w.heap.size w w' := by
  have hu24 := Try.underlying24
  have HR0_1 := Aside0.mk hr0_1
  have HC0_1 := Aside0.mk hc0_1
  clear hr0_1 hc0_1
  have HB := Aside0.mk (Below.refl w.heap.size w)
  have H : (trestlebook_CopyCnf.l0 k 0 a0_0 l0_1 a0_0 ([] : List (List Int))) = some (r1, r2) := h
  clear h
  have H' := Aside0.mk H
  clear H
  go_enter Try.func49, Try.ntmps49
  go_wp2_with (first | ((with_reducible refine gate_dst (N := 1) rfl ?_); refine box_event ?hg (N := 1) ?hd (cs := #[.int .i64 a0_0, .slice A0_1 l0_1.length c0_1]) (t := 24) ?hr ?_; (case hd => rfl); (case hg => rfl); (case hr => first | (go_simp; done) | (go_simp; rfl)); intro gb107 hg w2 hbox hb; have n0_ := Aside0.mk (below_step (by repeat (first | (with_reducible first | exact HB.out | apply below_alloc | apply pw_below_drewN | apply below_drew1) | exact HB.out)) hb); have n1_ := Aside0.mk (hbox); have n2_ := Aside0.mk ((by rw [hg]; exact (below_size (by repeat (first | (with_reducible first | exact HB.out | apply below_alloc | apply pw_below_drewN | apply below_drew1) | exact HB.out))) : w.heap.size ≤ gb107)); have n3_ := Aside0.mk ((by rw [hg]; exact (below_size (by repeat (first | (with_reducible first | exact HB.out | apply below_alloc | apply pw_below_drewN | apply below_drew1) | exact HB.out))) : w.heap.size ≤ gb107)); clear HB; have HB := n0_; have BK107 := n1_; have GW107 := n2_; have GE107 := n3_; clear n0_ n1_ n2_ n3_; clear hb hbox hg) | ((with_reducible refine gate_dst (N := 2) rfl ?_); refine box_event ?hg (N := 2) ?hd (cs := #[.int .i64 0, .slice none 0 0]) (t := 24) ?hr ?_; (case hd => rfl); (case hg => rfl); (case hr => first | (go_simp; done) | (go_simp; rfl)); intro gb108 hg w3 hbox hb; have n0_ := Aside0.mk (blk_below (g := gb107) (o := .cells #[.int .i64 a0_0, .slice A0_1 l0_1.length c0_1] 24 (0, 0)) (by (with_reducible repeat (first | refine blk_drewN ?_ _ | refine blk_drew ?_ | refine blk_alloc ?_ _)); exact BK107.out) hb); have n1_ := Aside0.mk (below_step (by repeat (first | (with_reducible first | exact HB.out | apply below_alloc | apply pw_below_drewN | apply below_drew1 | refine below_set ?_ GE107.out) | exact HB.out)) hb); have n2_ := Aside0.mk (hbox); have n3_ := Aside0.mk ((by rw [hg]; exact (below_size (by repeat (first | (with_reducible first | exact HB.out | apply below_alloc | apply pw_below_drewN | apply below_drew1 | refine below_set ?_ GE107.out) | exact HB.out))) : w.heap.size ≤ gb108)); have n4_ := Aside0.mk ((by rw [hg]; exact (below_size (by repeat (first | (with_reducible first | exact HB.out | apply below_alloc | apply pw_below_drewN | apply below_drew1 | refine below_set ?_ GE107.out) | exact HB.out))) : w.heap.size ≤ gb108)); have n5_ := Aside0.mk ((by rw [hg]; exact Nat.ne_of_lt (blk_lt (g := gb107) (o := .cells #[.int .i64 a0_0, .slice A0_1 l0_1.length c0_1] 24 (0, 0)) (by (with_reducible repeat (first | refine blk_drewN ?_ _ | refine blk_drew ?_ | refine blk_alloc ?_ _)); exact BK107.out)) : gb107 ≠ gb108)); have n6_ := Aside0.mk ((by rw [hg]; exact Nat.ne_of_gt (blk_lt (g := gb107) (o := .cells #[.int .i64 a0_0, .slice A0_1 l0_1.length c0_1] 24 (0, 0)) (by (with_reducible repeat (first | refine blk_drewN ?_ _ | refine blk_drew ?_ | refine blk_alloc ?_ _)); exact BK107.out)) : gb108 ≠ gb107)); clear BK107; clear HB; have BK107 := n0_; have HB := n1_; have BK108 := n2_; have GW108 := n3_; have GE108 := n4_; have NB107_108 := n5_; have NB108_107 := n6_; clear n0_ n1_ n2_ n3_ n4_ n5_ n6_; clear hb hbox hg; have hnb4 := NB107_108.out; have hnc4 := NB108_107.out; have hcz5_0 : w3.cell? ⟨gb107, 0, none⟩ = some (.int .i64 a0_0) := (blk_cell BK107.out 0).trans rfl; have hcz5_1 : w3.cell? ⟨gb107, 1, none⟩ = some (.slice A0_1 l0_1.length c0_1) := (blk_cell BK107.out 1).trans rfl; have hfz5_0 := blk_frozen BK107.out 0; have hfz5_1 := blk_frozen BK107.out 1) | ((with_reducible refine gate_dst (N := 3) rfl ?_); refine box_event ?hg (N := 3) ?hd (cs := #[.int .i64 0, .slice none 0 0]) (t := 24) ?hr ?_; (case hd => rfl); (case hg => rfl); (case hr => first | (go_simp; done) | (go_simp; rfl)); intro gb109 hg w6 hbox hb; have n0_ := Aside0.mk (blk_below (g := gb107) (o := .cells #[.int .i64 a0_0, .slice A0_1 l0_1.length c0_1] 24 (0, 0)) (by (with_reducible repeat (first | refine blk_drewN ?_ _ | refine blk_drew ?_ | refine blk_alloc ?_ _)); exact BK107.out) hb); have n1_ := Aside0.mk (blk_below (g := gb108) (o := .cells #[.int .i64 0, .slice none 0 0] 24 (0, 0)) (by (with_reducible repeat (first | refine blk_drewN ?_ _ | refine blk_drew ?_ | refine blk_alloc ?_ _)); exact BK108.out) hb); have n2_ := Aside0.mk (below_step (by repeat (first | (with_reducible first | exact HB.out | apply below_alloc | apply pw_below_drewN | apply below_drew1 | refine below_set ?_ GE107.out | refine below_set ?_ GE108.out) | exact HB.out)) hb); have n3_ := Aside0.mk (hbox); have n4_ := Aside0.mk ((by rw [hg]; exact (below_size (by repeat (first | (with_reducible first | exact HB.out | apply below_alloc | apply pw_below_drewN | apply below_drew1 | refine below_set ?_ GE107.out | refine below_set ?_ GE108.out) | exact HB.out))) : w.heap.size ≤ gb109)); have n5_ := Aside0.mk ((by rw [hg]; exact (below_size (by repeat (first | (with_reducible first | exact HB.out | apply below_alloc | apply pw_below_drewN | apply below_drew1 | refine below_set ?_ GE107.out | refine below_set ?_ GE108.out) | exact HB.out))) : w.heap.size ≤ gb109)); have n6_ := Aside0.mk ((by rw [hg]; exact Nat.ne_of_lt (blk_lt (g := gb107) (o := .cells #[.int .i64 a0_0, .slice A0_1 l0_1.length c0_1] 24 (0, 0)) (by (with_reducible repeat (first | refine blk_drewN ?_ _ | refine blk_drew ?_ | refine blk_alloc ?_ _)); exact BK107.out)) : gb107 ≠ gb109)); have n7_ := Aside0.mk ((by rw [hg]; exact Nat.ne_of_gt (blk_lt (g := gb107) (o := .cells #[.int .i64 a0_0, .slice A0_1 l0_1.length c0_1] 24 (0, 0)) (by (with_reducible repeat (first | refine blk_drewN ?_ _ | refine blk_drew ?_ | refine blk_alloc ?_ _)); exact BK107.out)) : gb109 ≠ gb107)); have n8_ := Aside0.mk ((by rw [hg]; exact Nat.ne_of_lt (blk_lt (g := gb108) (o := .cells #[.int .i64 0, .slice none 0 0] 24 (0, 0)) (by (with_reducible repeat (first | refine blk_drewN ?_ _ | refine blk_drew ?_ | refine blk_alloc ?_ _)); exact BK108.out)) : gb108 ≠ gb109)); have n9_ := Aside0.mk ((by rw [hg]; exact Nat.ne_of_gt (blk_lt (g := gb108) (o := .cells #[.int .i64 0, .slice none 0 0] 24 (0, 0)) (by (with_reducible repeat (first | refine blk_drewN ?_ _ | refine blk_drew ?_ | refine blk_alloc ?_ _)); exact BK108.out)) : gb109 ≠ gb108)); clear BK107; clear BK108; clear HB; have BK107 := n0_; have BK108 := n1_; have HB := n2_; have BK109 := n3_; have GW109 := n4_; have GE109 := n5_; have NB107_109 := n6_; have NB109_107 := n7_; have NB108_109 := n8_; have NB109_108 := n9_; clear n0_ n1_ n2_ n3_ n4_ n5_ n6_ n7_ n8_ n9_; clear hb hbox hg; have hnb7 := NB109_107.out; have hnc7 := NB107_109.out; have hnb8 := NB109_108.out; have hnc8 := NB108_109.out; have hcz9_0 : w6.cell? ⟨gb109, 0, none⟩ = some (.int .i64 0) := (blk_cell BK109.out 0).trans rfl; have hcz9_1 : w6.cell? ⟨gb109, 1, none⟩ = some (.slice none 0 0) := (blk_cell BK109.out 1).trans rfl; have hfz9_0 := blk_frozen BK109.out 0; have hfz9_1 := blk_frozen BK109.out 1))
  go_loopg [4] k (fun kq v4 w' => ∃ (x4_1 : Int) (x110001_1 : List (List Int)) (u110001 : Value), v4 = .int .i64 x4_1 ∧ Aside0 (trestlebook_CopyCnf.l0 kq x4_1 a0_0 l0_1 a0_0 x110001_1 = some (r1, r2)) ∧ Aside0 (kq ≤ k) ∧ Aside0 (Kd.S (Kd.slice 3 (Kd.int .i64)) 43 w' w.heap.size (fun _ => True) u110001 x110001_1) ∧ Aside0 (w'.heap[gb107]? = some (.cells #[.int .i64 a0_0, (.slice A0_1 l0_1.length c0_1)] 24 (0, 0))) ∧ Aside0 (w'.heap[gb108]? = some (.cells #[.int .i64 0, (.slice none 0 0)] 24 (0, 0))) ∧ Aside0 (w'.heap[gb109]? = some (.cells #[.int .i64 a0_0, u110001] 24 (0, 0))) ∧ Aside0 (Below w.heap.size w w'))
  case atStart => exact ⟨(0), (([] : List (List Int))), (.slice none 0 0), (by first | rfl | (simp; done) | (simp [*]; done)), H', ⟨Nat.le_refl _⟩, ⟨by first | exact Kd.S_nil _ _ _ _ _ | exact Kd.N_nil _ _ _ _ _ | exact Kd.V_nil _ _ _ _ _ | exact Kd.Q_nil _ _ _ _ _ | exact Kd.R_nil _ _ _ _ _⟩, ⟨by (with_reducible repeat (first | refine blk_drewN ?_ _ | refine blk_drew ?_ | refine blk_alloc ?_ _)); refine blk_far ?_ NB107_109.out _; (with_reducible repeat (first | refine blk_drewN ?_ _ | refine blk_drew ?_ | refine blk_alloc ?_ _)); refine blk_far ?_ NB107_109.out _; (with_reducible repeat (first | refine blk_drewN ?_ _ | refine blk_drew ?_ | refine blk_alloc ?_ _)); exact BK107.out⟩, ⟨by (with_reducible repeat (first | refine blk_drewN ?_ _ | refine blk_drew ?_ | refine blk_alloc ?_ _)); refine blk_far ?_ NB108_109.out _; (with_reducible repeat (first | refine blk_drewN ?_ _ | refine blk_drew ?_ | refine blk_alloc ?_ _)); refine blk_far ?_ NB108_109.out _; (with_reducible repeat (first | refine blk_drewN ?_ _ | refine blk_drew ?_ | refine blk_alloc ?_ _)); exact BK108.out⟩, ⟨by (with_reducible repeat (first | refine blk_drewN ?_ _ | refine blk_drew ?_ | refine blk_alloc ?_ _)); refine blk_put (cs := #[.int .i64 a0_0, .slice none 0 0]) ?_ 1 _ rfl; (with_reducible repeat (first | refine blk_drewN ?_ _ | refine blk_drew ?_ | refine blk_alloc ?_ _)); refine blk_put (cs := #[.int .i64 0, .slice none 0 0]) ?_ 0 _ rfl; (with_reducible repeat (first | refine blk_drewN ?_ _ | refine blk_drew ?_ | refine blk_alloc ?_ _)); exact BK109.out⟩, ⟨by repeat (first | (with_reducible first | exact HB.out | apply below_alloc | apply pw_below_drewN | apply below_drew1 | refine below_set ?_ GE107.out | refine below_set ?_ GE108.out | refine below_set ?_ GE109.out) | exact HB.out)⟩⟩
  case round =>
    clear H'
    try clear p2
    try clear c4
    try clear c7
    try clear c8
    try clear hcz5_0
    try clear hcz5_1
    try clear hcz9_0
    try clear hcz9_1
    try clear hfz5_0
    try clear hfz5_1
    try clear hfz9_0
    try clear hfz9_1
    obtain ⟨x4_1, x110001_1, u110001, rfl, HA, HK1, HO_110001, BK107, BK108, BK109, HB⟩ := hrel
    cases gk with
    | zero => exact absurd HA.out (by simp [trestlebook_CopyCnf.l0])
    | succ k1 =>
      have H := HA.out
      clear HA
      simp only [trestlebook_CopyCnf.l0] at H
      by_cases c10 : x4_1 < (l0_1.length : Int)
      · rw [if_pos c10] at H
        have c10b0 : decide (x4_1 < (l0_1.length : Int)) = true := decide_eq_true c10
        clear c10
        by_cases c11 : 0 ≤ x4_1
        · rw [if_pos c11] at H
          have c11b0 : decide (0 ≤ x4_1) = true := decide_eq_true c11
          clear c11
          replace H := Option.bind_eq_some_iff.mp H
          obtain ⟨t111, A120, H⟩ := H
          replace H : (if x110001_1.length < 5864062014805 then (trestlebook_CopyCnf.l0 k1 (wrap64 (x4_1 + 1)) a0_0 l0_1 a0_0 (x110001_1 ++ [t111])) else (none)) = some (r1, r2) := H
          have A12 := Aside0.mk A120
          clear A120
          by_cases c13 : x110001_1.length < 5864062014805
          · rw [if_pos c13] at H
            have LMc13 := Aside0.mk c13
            clear c13
            obtain ⟨y114, hy114⟩ : ∃ y_ : List (List Int), y_ = (x110001_1 ++ [t111]) := ⟨_, rfl⟩
            replace H : (trestlebook_CopyCnf.l0 k1 (wrap64 (x4_1 + 1)) a0_0 l0_1 a0_0 y114) = some (r1, r2) := by first | (rw [hy114]; with_reducible exact H) | (have H2_ := (Option.bind_some _ _).symm.trans H; rw [hy114]; with_reducible exact H2_) | (have H2_ := (Option.bind_some _ _).symm.trans H; with_reducible exact H2_) | with_reducible exact H | (rw [hy114]; exact H) | exact H
            have Ny114 := Aside0.mk hy114
            clear hy114
            have H' := Aside0.mk H
            clear H
            have hnb14 := NB107_108.out
            have hnc14 := NB108_107.out
            have hnb15 := NB107_109.out
            have hnc15 := NB109_107.out
            have hcz16_0 : wr.cell? ⟨gb107, 0, none⟩ = some (.int .i64 a0_0) := (blk_cell BK107.out 0).trans rfl
            have hcz16_1 : wr.cell? ⟨gb107, 1, none⟩ = some (.slice A0_1 l0_1.length c0_1) := (blk_cell BK107.out 1).trans rfl
            have hfz16_0 := blk_frozen BK107.out 0
            have hfz16_1 := blk_frozen BK107.out 1
            try go_wp2
            have n0_ := Aside0.mk (Kd.S_drew HO_110001.out)
            have n1_ := Aside0.mk (blk_drew BK107.out)
            have n2_ := Aside0.mk (blk_drew BK108.out)
            have n3_ := Aside0.mk (blk_drew BK109.out)
            have n4_ := Aside0.mk (below_drew1 HB.out)
            clear HO_110001
            clear BK107
            clear BK108
            clear BK109
            clear HB
            have HO_110001 := n0_
            have BK107 := n1_
            have BK108 := n2_
            have BK109 := n3_
            have HB := n4_
            clear n0_ n1_ n2_ n3_ n4_
            have p110 : 0 ≤ (x4_1 : Int) := of_decide_eq_true (by first | (with_reducible assumption) | assumption)
            have q110 : x4_1 < (l0_1.length : Int) := of_decide_eq_true (by first | (with_reducible assumption) | assumption)
            obtain ⟨ad110, A110_0, c110_0, e110, hx110_0, hl110_0, hi110_0⟩ := at_L1 HR0_1.out x4_1 p110 q110
            have hw110_0 := hx110_0
            cases e110
            replace hx110_0 := (HB.out.cell (World.block_lt_of_cell? w _ hx110_0)).trans hx110_0
            have HR110_0 := Aside0.mk hi110_0
            have HC110_0 := Aside0.mk hl110_0
            clear hi110_0 hl110_0
            replace p110 := eq_true p110
            replace q110 := eq_true q110
            refine start_ (n := 12) (S := fun w' => w'.cell? ⟨gb109, 0, none⟩ = some (.int .i64 a0_0) ∧ w'.cell? ⟨gb109, 1, none⟩ = some (u110001) ∧ w'.cell? ⟨gb107, 0, none⟩ = some (.int .i64 a0_0) ∧ w'.cell? ⟨gb107, 1, none⟩ = some (.slice (some ad110) l0_1.length c0_1) ∧ w'.cell? (ad110.add (x4_1).toNat) = some (.slice A110_0 (rd_L1 l0_1 x4_1).length c110_0)) (ds := [11]) #[false, false, false, false, false, false, false, false, false, false, false, false] (by kernel_rfl) rfl rfl ⟨(blk_cell BK109.out 0).trans rfl, (blk_cell BK109.out 1).trans rfl, (blk_cell BK107.out 0).trans rfl, (blk_cell BK107.out 1).trans rfl, ((HB.out.cell (World.block_lt_of_cell? w _ hw110_0)).trans hw110_0)⟩ (fun hHeld => ?_); refine with_tabW trestlebook_CopyCnf.tab5 trestlebook_CopyCnf.bits5 (fun HT_ HW_ => ?_)
            generalize wr.drew = w17 at HO_110001 BK107 BK108 BK109 HB HR110_0 hx110_0 hHeld ⊢
            refine pure_ (i := 0) (N := some 15) (v := ?_) (a' := ?_) #[true, false, false, false, false, false, false, false, false, false, false, false] rfl rfl (any_of HT_.out (by kernel_rfl)) (fun _ _ _ h => h) (Or.inl ⟨by rfl, ?_⟩) ?_ ?_
            rotate_left
            · intro w'
              go_simp
              with_reducible rfl
            rotate_left
            · simp only [Act.put, List.setIfInBounds_toArray, List.set_cons_zero, List.set_cons_succ, i64_w, i32_w]
              rfl
            refine pure_ (i := 2) (N := some 17) (v := ?_) (a' := ?_) #[true, false, true, false, false, false, false, false, false, false, false, false] rfl rfl (any_of HT_.out (by kernel_rfl)) (fun _ _ _ h => h) (Or.inl ⟨by rfl, ?_⟩) ?_ ?_
            rotate_left
            · intro w'
              go_simp
              with_reducible rfl
            rotate_left
            · simp only [Act.put, List.setIfInBounds_toArray, List.set_cons_zero, List.set_cons_succ, i64_w, i32_w]
              rfl
            refine pure_ (i := 4) (N := some 19) (v := ?_) (a' := ?_) #[true, false, true, false, true, false, false, false, false, false, false, false] rfl rfl (any_of HT_.out (by kernel_rfl)) (fun _ _ _ h => h) (Or.inl ⟨by rfl, ?_⟩) ?_ ?_
            rotate_left
            · intro w'
              go_simp
              with_reducible rfl
            rotate_left
            · simp only [Act.put, List.setIfInBounds_toArray, List.set_cons_zero, List.set_cons_succ, i64_w, i32_w]
              rfl
            refine take_ (i := 1) (N := some 16) (v := ?_) (a' := ?_) #[true, true, true, false, true, false, false, false, false, false, false, false] rfl rfl (take_ofW HT_.out HW_.out (by kernel_rfl)) (fun _ _ _ h => h) (Or.inl ⟨by rfl, ?_⟩) hHeld ?_ ?_
            rotate_left
            · rintro w' ⟨s0, s1, s2, s3, s4⟩
              go_simp
              with_reducible rfl
            rotate_left
            · simp only [Act.put, List.setIfInBounds_toArray, List.set_cons_zero, List.set_cons_succ, i64_w, i32_w]
              rfl
            refine take_ (i := 3) (N := some 18) (v := ?_) (a' := ?_) #[true, true, true, true, true, false, false, false, false, false, false, false] rfl rfl (take_ofW HT_.out HW_.out (by kernel_rfl)) (fun _ _ _ h => h) (Or.inl ⟨by rfl, ?_⟩) hHeld ?_ ?_
            rotate_left
            · rintro w' ⟨s0, s1, s2, s3, s4⟩
              go_simp
              with_reducible rfl
            rotate_left
            · simp only [Act.put, List.setIfInBounds_toArray, List.set_cons_zero, List.set_cons_succ, i64_w, i32_w]
              rfl
            refine pure_ (i := 5) (N := some 20) (v := ?_) (a' := ?_) #[true, true, true, true, true, true, false, false, false, false, false, false] rfl rfl (any_of HT_.out (by kernel_rfl)) (fun _ _ _ h => h) (Or.inl ⟨by rfl, ?_⟩) ?_ ?_
            rotate_left
            · intro w'
              go_simp
              with_reducible rfl
            rotate_left
            · simp only [Act.put, List.setIfInBounds_toArray, List.set_cons_zero, List.set_cons_succ, i64_w, i32_w]
              rfl
            refine take_ (i := 6) (N := some 21) (v := ?_) (a' := ?_) #[true, true, true, true, true, true, true, false, false, false, false, false] rfl rfl (take_ofW HT_.out HW_.out (by kernel_rfl)) (fun _ _ _ h => h) (Or.inl ⟨by rfl, ?_⟩) hHeld ?_ ?_
            rotate_left
            · rintro w' ⟨s0, s1, s2, s3, s4⟩
              go_simp
              with_reducible rfl
            rotate_left
            · simp only [Act.put, List.setIfInBounds_toArray, List.set_cons_zero, List.set_cons_succ, i64_w, i32_w]
              rfl
            refine one_ (i := 7) (N := some 22) #[true, true, true, true, true, true, true, true, false, false, false, false] rfl rfl (one_of HT_.out (by kernel_rfl)) (by decide) (fun K hK => ?_)
            refine goes_ Try.func37 (by kernel_rfl) rfl #[.slice A110_0 (rd_L1 l0_1 x4_1).length c110_0] (by rfl) rfl rfl (by (try simp only [List.map_toArray, List.map_cons, List.map_nil]); first | done | rfl | (simp only [List.length_drop, List.length_take]; rfl)) ?_
            with_reducible refine (trestlebook_CopyInts.calls _ _ (rd_L1 l0_1 x4_1) t111 _ ?side1 ?side2 A12.out).mono ?_
            (case side1 => repeat (first | exact (Kd.C_below HR110_0.out HB.out) | (with_reducible refine Kd.C_alloc ?_ _) | (with_reducible refine Kd.C_drewN ?_ _) | (with_reducible refine Kd.C_drew ?_)))
            (case side2 => exact HC110_0.out)
            rintro e w18 ⟨v112, rfl, ho0, hb⟩
            refine ⟨_, rfl, ?_⟩
            have n0_ := Aside0.mk (Kd.S_elder' (by (with_reducible repeat (first | apply Kd.S_alloc | apply Kd.S_drewN | apply Kd.S_drew)); exact HO_110001.out) (Kd.R_base ho0) hb)
            have n1_ := Aside0.mk (Kd.R_lower ho0 (below_size (by repeat (first | (with_reducible first | exact HB.out | apply below_alloc | apply pw_below_drewN | apply below_drew1 | refine below_set ?_ GE107.out | refine below_set ?_ GE108.out | refine below_set ?_ GE109.out) | exact HB.out))))
            have n2_ := Aside0.mk (blk_below (g := gb107) (o := .cells #[.int .i64 a0_0, .slice (some ad110) l0_1.length c0_1] 24 (0, 0)) (by (with_reducible repeat (first | refine blk_drewN ?_ _ | refine blk_drew ?_ | refine blk_alloc ?_ _)); exact BK107.out) hb)
            have n3_ := Aside0.mk (blk_below (g := gb108) (o := .cells #[.int .i64 0, .slice none 0 0] 24 (0, 0)) (by (with_reducible repeat (first | refine blk_drewN ?_ _ | refine blk_drew ?_ | refine blk_alloc ?_ _)); exact BK108.out) hb)
            have n4_ := Aside0.mk (blk_below (g := gb109) (o := .cells #[.int .i64 a0_0, u110001] 24 (0, 0)) (by (with_reducible repeat (first | refine blk_drewN ?_ _ | refine blk_drew ?_ | refine blk_alloc ?_ _)); exact BK109.out) hb)
            have n5_ := Aside0.mk (below_step (by repeat (first | (with_reducible first | exact HB.out | apply below_alloc | apply pw_below_drewN | apply below_drew1 | refine below_set ?_ GE107.out | refine below_set ?_ GE108.out | refine below_set ?_ GE109.out) | exact HB.out)) hb)
            clear HO_110001
            clear BK107
            clear BK108
            clear BK109
            clear HB
            have HO_110001 := n0_
            have HO113 := n1_
            have BK107 := n2_
            have BK108 := n3_
            have BK109 := n4_
            have HB := n5_
            clear n0_ n1_ n2_ n3_ n4_ n5_
            (try clear hb)
            (try clear hb2)
            (try clear hk)
            (try clear hi)
            (try clear ho0)
            obtain ⟨Ao20, co20, eo20⟩ := Kd.R_slice HO113.out
            (first | subst eo20 | (injection eo20 with f1_ f2_ f3_; have f4_ := f1_.symm; have f5_ := f3_.symm; clear f1_ f2_ f3_; subst f4_; subst f5_))
            refine hK.out _ _ ⟨(blk_cell BK109.out 0).trans rfl, (blk_cell BK109.out 1).trans rfl, (blk_cell BK107.out 0).trans rfl, (blk_cell BK107.out 1).trans rfl, ((HB.out.cell (World.block_lt_of_cell? w _ hw110_0)).trans hw110_0)⟩ (fun hHeld => ?_)
            clear hK K
            refine norm_ (a' := ?_) ?_ ?_
            rotate_left
            · show Act.put _ (some 22) _ = _
              simp only [Act.put, List.setIfInBounds_toArray, List.set_cons_zero, List.set_cons_succ, i64_w, i32_w]
              rfl
            refine one_ (i := 8) (N := some 23) #[true, true, true, true, true, true, true, true, true, false, false, false] rfl rfl (one_of HT_.out (by kernel_rfl)) (by decide) (fun K hK => ?_)
            refine value_ (w1 := ?_) (v := ?_) (by rfl) rfl ?_ ?_
            rotate_left 2
            · go_simp
              constructor
              · rfl
              · rfl
            refine hK.out _ _ ⟨(blk_cell (blk_alloc BK109.out _) 0).trans rfl, (blk_cell (blk_alloc BK109.out _) 1).trans rfl, (blk_cell (blk_alloc BK107.out _) 0).trans rfl, (blk_cell (blk_alloc BK107.out _) 1).trans rfl, (World.cell?_alloc_lt _ _ _ (World.block_lt_of_cell? _ _ (((HB.out.cell (World.block_lt_of_cell? w _ hw110_0)).trans hw110_0)))).trans (((HB.out.cell (World.block_lt_of_cell? w _ hw110_0)).trans hw110_0))⟩ (fun hHeld => ?_)
            clear hK K
            refine norm_ (a' := ?_) ?_ ?_
            rotate_left
            · show Act.put _ (some 23) _ = _
              simp only [Act.put, List.setIfInBounds_toArray, List.set_cons_zero, List.set_cons_succ, i64_w, i32_w]
              rfl
            refine one_ (i := 9) (N := some 24) #[true, true, true, true, true, true, true, true, true, true, false, false] rfl rfl (one_of HT_.out (by kernel_rfl)) (by decide) (fun K hK => ?_)
            refine Kd.S_append_step (Kd.slice 3 (Kd.int .i64)) (w0 := w) w.heap.size (by rfl) (.tmp 16) (.tmp 23) 22 43 (.slice none 0 0) 24 rfl Try.underlying22 info43 rfl (by decide) (by omega) u110001 x110001_1 t111 [.slice Ao20 t111.length co20] (fun _ => True) (fun k_ => some k_ = (.slice Ao20 t111.length co20 : Value).ownBlock) rfl rfl ?aP (fun k_ hk_ => ((Kd.R_mono (ok' := fun k_ => ((fun _ => True)) k_ ∧ some k_ ≠ (u110001 : Value).ownBlock) (Kd.R_apart' (HO113.out) (Kd.S_typed HO_110001.out) (by decide)) (fun k_ hk => ⟨trivial, hk.2⟩))).1 k_ hk_.symm) ?aF ?aO ?aB ?aS ?aL ?_
            (case aP => exact Kd.M_row (Kd.R_mono (Kd.R_tight rfl (Kd.R_mono (ok' := fun k_ => ((fun _ => True)) k_ ∧ some k_ ≠ (u110001 : Value).ownBlock) (Kd.R_apart' (HO113.out) (Kd.S_typed HO_110001.out) (by decide)) (fun k_ hk => ⟨trivial, hk.2⟩))) (fun _ h_ => h_)))
            (case aB => exact (by repeat (first | (with_reducible first | exact HB.out | apply below_alloc | apply pw_below_drewN | apply below_drew1 | refine below_set ?_ GE107.out | refine below_set ?_ GE108.out | refine below_set ?_ GE109.out) | exact HB.out)))
            (case aF => exact (fun _ _ => trivial))
            (case aO => exact (by (with_reducible repeat (first | apply Kd.S_alloc | apply Kd.S_drewN | apply Kd.S_drew)); exact Kd.S_mono HO_110001.out (fun k_ hk => ⟨trivial, fun e_ => hk.2 e_⟩)))
            (case aS => exact (below_size (by repeat (first | (with_reducible first | exact HB.out | apply below_alloc | apply pw_below_drewN | apply below_drew1 | refine below_set ?_ GE107.out | refine below_set ?_ GE108.out | refine below_set ?_ GE109.out) | exact HB.out))))
            (case aL => have := LMc13.out; omega)
            intro v115 w19 ho hb hg hat
            rw [← Ny114.out] at ho
            have n0_ := Aside0.mk (blk_grown (g := gb107) (o := .cells #[.int .i64 a0_0, .slice (some ad110) l0_1.length c0_1] 24 (0, 0)) (by (with_reducible repeat (first | refine blk_drewN ?_ _ | refine blk_drew ?_ | refine blk_alloc ?_ _)); exact BK107.out) hg (Kd.S_ne HO_110001.out BK107.out (by decide)))
            have n1_ := Aside0.mk (blk_grown (g := gb108) (o := .cells #[.int .i64 0, .slice none 0 0] 24 (0, 0)) (by (with_reducible repeat (first | refine blk_drewN ?_ _ | refine blk_drew ?_ | refine blk_alloc ?_ _)); exact BK108.out) hg (Kd.S_ne HO_110001.out BK108.out (by decide)))
            have n2_ := Aside0.mk (blk_grown (g := gb109) (o := .cells #[.int .i64 a0_0, u110001] 24 (0, 0)) (by (with_reducible repeat (first | refine blk_drewN ?_ _ | refine blk_drew ?_ | refine blk_alloc ?_ _)); exact BK109.out) hg (Kd.S_ne HO_110001.out BK109.out (by decide)))
            have n3_ := Aside0.mk (hb)
            have n4_ := Aside0.mk (ho)
            clear BK107
            clear BK108
            clear BK109
            clear HB
            clear HO_110001
            clear HO113
            have BK107 := n0_
            have BK108 := n1_
            have BK109 := n2_
            have HB := n3_
            have HO116 := n4_
            clear n0_ n1_ n2_ n3_ n4_
            clear ho hb hg hat
            obtain ⟨Ao21, co21, eo21⟩ := Kd.S_slice HO116.out
            (first | subst eo21 | (injection eo21 with f1_ f2_ f3_; have f4_ := f1_.symm; have f5_ := f3_.symm; clear f1_ f2_ f3_; subst f4_; subst f5_))
            refine hK.out _ _ ⟨(blk_cell BK109.out 0).trans rfl, (blk_cell BK109.out 1).trans rfl, (blk_cell BK107.out 0).trans rfl, (blk_cell BK107.out 1).trans rfl, ((HB.out.cell (World.block_lt_of_cell? w _ hw110_0)).trans hw110_0)⟩ (fun hHeld => ?_)
            clear hK K
            refine norm_ (a' := ?_) ?_ ?_
            rotate_left
            · show Act.put _ (some 24) _ = _
              simp only [Act.put, List.setIfInBounds_toArray, List.set_cons_zero, List.set_cons_succ, i64_w, i32_w]
              rfl
            refine pure_ (i := 10) (N := some 25) (v := ?_) (a' := ?_) #[true, true, true, true, true, true, true, true, true, true, true, false] rfl rfl (any_of HT_.out (by kernel_rfl)) (fun _ _ _ h => h) (Or.inl ⟨by rfl, ?_⟩) ?_ ?_
            rotate_left
            · intro w'
              go_simp
              with_reducible rfl
            rotate_left
            · simp only [Act.put, List.setIfInBounds_toArray, List.set_cons_zero, List.set_cons_succ, i64_w, i32_w]
              rfl
            refine last_ (i := 11) (N := none) #[true, true, true, true, true, true, true, true, true, true, true, true] rfl rfl (one_of HT_.out (by kernel_rfl)) (by decide) (fun K hK => ?_)
            have hs22 : w19.cell? ⟨gb109, 1, none⟩ = some (u110001) := (blk_cell BK109.out 1).trans rfl
            have hfs22 := blk_frozen BK109.out 1
            have hns22_0 := NB107_109.out
            have hns22_1 := NB108_109.out
            have hms22_0 := NB109_107.out
            have hms22_1 := NB109_108.out
            refine skip_ (w1 := ?_) (by rfl) rfl ?_ ?_
            rotate_left
            · go_simp
              rfl
            refine hK.out _ _ ?_
            clear hK K
            refine done_ (done_of HT_.out (by kernel_rfl)) ?_
            try go_wp2
            go_roundg k1
            case measure => have := HK1.out; omega
            case rel => exact ⟨(wrap64 (x4_1 + 1)), (y114), (.slice Ao21 y114.length co21), (by first | rfl | (simp; done) | (simp [*]; done)), H', ⟨by have := HK1.out; omega⟩, ⟨by (with_reducible repeat (first | apply Kd.S_alloc | apply Kd.S_drewN | apply Kd.S_drew)); exact Kd.S_mono (Kd.S_far (p := ⟨gb109, 1, none⟩) (Kd.S_types HO116.out BK109.out (by decide)) (fun _ hk => hk.2) (.slice Ao21 y114.length co21)) (fun _ hk => trivial)⟩, ⟨by (with_reducible repeat (first | refine blk_drewN ?_ _ | refine blk_drew ?_ | refine blk_alloc ?_ _)); refine blk_far ?_ NB107_109.out _; (with_reducible repeat (first | refine blk_drewN ?_ _ | refine blk_drew ?_ | refine blk_alloc ?_ _)); exact BK107.out⟩, ⟨by (with_reducible repeat (first | refine blk_drewN ?_ _ | refine blk_drew ?_ | refine blk_alloc ?_ _)); refine blk_far ?_ NB108_109.out _; (with_reducible repeat (first | refine blk_drewN ?_ _ | refine blk_drew ?_ | refine blk_alloc ?_ _)); exact BK108.out⟩, ⟨by (with_reducible repeat (first | refine blk_drewN ?_ _ | refine blk_drew ?_ | refine blk_alloc ?_ _)); refine blk_put (cs := #[.int .i64 a0_0, u110001]) ?_ 1 _ rfl; (with_reducible repeat (first | refine blk_drewN ?_ _ | refine blk_drew ?_ | refine blk_alloc ?_ _)); exact BK109.out⟩, ⟨by repeat (first | (with_reducible first | exact HB.out | apply below_alloc | apply pw_below_drewN | apply below_drew1 | refine below_set ?_ GE107.out | refine below_set ?_ GE108.out | refine below_set ?_ GE109.out) | exact HB.out)⟩⟩
          · rw [if_neg c13] at H
            exact absurd H (by simp)
        · rw [if_neg c11] at H
          exact absurd H (by simp)
      · rw [if_neg c10] at H
        have c10b0 : decide (x4_1 < (l0_1.length : Int)) = false := decide_eq_false c10
        clear c10
        simp only [Option.some.injEq, Prod.mk.injEq] at H
        obtain ⟨rfl, rfl⟩ := H
        have hnb23 := NB107_108.out
        have hnc23 := NB108_107.out
        have hnb24 := NB107_109.out
        have hnc24 := NB109_107.out
        have hcz25_0 : wr.cell? ⟨gb107, 0, none⟩ = some (.int .i64 a0_0) := (blk_cell BK107.out 0).trans rfl
        have hcz25_1 : wr.cell? ⟨gb107, 1, none⟩ = some (.slice A0_1 l0_1.length c0_1) := (blk_cell BK107.out 1).trans rfl
        have hfz25_0 := blk_frozen BK107.out 0
        have hfz25_1 := blk_frozen BK107.out 1
        have hnb26 := NB109_108.out
        have hnc26 := NB108_109.out
        have hcz27_0 : wr.cell? ⟨gb109, 0, none⟩ = some (.int .i64 a0_0) := (blk_cell BK109.out 0).trans rfl
        have hcz27_1 : wr.cell? ⟨gb109, 1, none⟩ = some (u110001) := (blk_cell BK109.out 1).trans rfl
        have hfz27_0 := blk_frozen BK109.out 0
        have hfz27_1 := blk_frozen BK109.out 1
        have hcz28_0 : wr.cell? ⟨gb108, 0, none⟩ = some (.int .i64 0) := (blk_cell BK108.out 0).trans rfl
        have hcz28_1 : wr.cell? ⟨gb108, 1, none⟩ = some (.slice none 0 0) := (blk_cell BK108.out 1).trans rfl
        have hfz28_0 := blk_frozen BK108.out 0
        have hfz28_1 := blk_frozen BK108.out 1
        obtain ⟨Ao29, co29, eo29⟩ := Kd.S_slice HO_110001.out
        subst eo29
        go_wp2
        refine bodyPost_ret (results_cell_row rfl _ _ gb108 24 #[.int .i64 a0_0, .slice Ao29 x110001_1.length co29] (0, 0) _ rfl (by (with_reducible repeat (first | refine blk_drewN ?_ _ | refine blk_drew ?_ | refine blk_alloc ?_ _)); refine blk_put (cs := #[.int .i64 a0_0, .slice none 0 0]) ?_ 1 _ rfl; (with_reducible repeat (first | refine blk_drewN ?_ _ | refine blk_drew ?_ | refine blk_alloc ?_ _)); refine blk_put (cs := #[.int .i64 0, .slice none 0 0]) ?_ 0 _ rfl; (with_reducible repeat (first | refine blk_drewN ?_ _ | refine blk_drew ?_ | refine blk_alloc ?_ _)); exact BK108.out) Try.underlying24 rfl (by kernel_rfl)) rfl ?_
        exact ⟨_, by first | rfl | (simp [errW_none, errW_some] <;> rfl) | (simp [*, errW_none, errW_some] <;> rfl), by (with_reducible repeat (first | apply Kd.S_alloc | apply Kd.S_drewN | apply Kd.S_drew)); exact Kd.S_mono (Kd.S_far (p := ⟨gb108, 1, none⟩) (Kd.S_far (p := ⟨gb108, 0, none⟩) (Kd.S_types HO_110001.out BK108.out (by decide)) (fun _ hk => hk.2) (.int .i64 a0_0)) (fun _ hk => hk.2) (.slice Ao29 x110001_1.length co29)) (fun _ hk => trivial), by repeat (first | (with_reducible first | exact HB.out | apply below_alloc | apply pw_below_drewN | apply below_drew1 | refine below_set ?_ GE107.out | refine below_set ?_ GE108.out | refine below_set ?_ GE109.out) | exact HB.out)⟩

end Go.Proofs.Ythhmjfjkbmmcaaa.GCO
-- written by a program of this session's own (gprint.py), after the kit's print
namespace Go.Proofs.Ythhmjfjkbmmcaaa.GCO
open Go.RowKit Go.Proofs.YthhmjfjkbmmcaaaW.PrintWords Go.Proofs.YthhmjfjkbmmcaaaW.PrintLast Go.Proofs.YthhmjfjkbmmcaaaW.PrintMore
attribute [local go_sem] max2_int min2_int max_two min_two max_three min_three max_four min_four   -- for this text's walks alone
set_option linter.unusedVariables false
set_option linter.unusedSimpArgs false

/-! ### trestleref19_copied: function 26 -/
def trestleref19_copied.f (k : Nat) (a0_0 : Int) (l0_1 : List (List Int)) (l1 : List (List Int)) : Option (Int × (List (List Int))) := (trestlebook_CopyCnf.f k a0_0 l1).bind fun bt119 => (some (bt119.1, bt119.2))
set_option maxHeartbeats 8000000 in
set_option maxRecDepth 100000 in
theorem trestleref19_copied.calls (k : Nat) (a0_0 : Int) (A0_1 : Option Addr) (c0_1 : Nat) (l0_1 : List (List Int)) (A1 : Option Addr) (c1 : Nat) (l1 : List (List Int)) (r1 : Int) (r2 : List (List Int)) (w : World) (hr0_1 : Kd.C (Kd.slice 3 (Kd.int .i64)) w A0_1 l0_1.length l0_1) (hc0_1 : l0_1.length ≤ c0_1) (hr1 : Kd.C (Kd.slice 3 (Kd.int .i64)) w A1 l1.length l1) (hc1 : l1.length ≤ c1) (h : trestleref19_copied.f k a0_0 l0_1 l1 = some (r1, r2)) :
    Calls Try.prog 26 #[.agg #[.int .i64 a0_0, .slice A0_1 l0_1.length c0_1], .slice A1 l1.length c1] w fun e w' => ∃ v1_ : Value, e = .returned (.agg #[.int .i64 r1, v1_]) ∧ Kd.S (Kd.slice 3 (Kd.int .i64)) 43 w' w.heap.size (fun _ => True) v1_ r2 ∧ Below w.heap.size w w' := by
  have hu24 := Try.underlying24
  have HR0_1 := Aside0.mk hr0_1
  have HC0_1 := Aside0.mk hc0_1
  clear hr0_1 hc0_1
  have HR1 := Aside0.mk hr1
  have HC1 := Aside0.mk hc1
  clear hr1 hc1
  have HB := Aside0.mk (Below.refl w.heap.size w)
  have H : ((trestlebook_CopyCnf.f k a0_0 l1).bind fun bt119 => (some (bt119.1, bt119.2))) = some (r1, r2) := h
  clear h
  replace H := Option.bind_eq_some_iff.mp H
  obtain ⟨⟨t119, t120⟩, A30, H⟩ := H
  replace H : (some (t119, t120)) = some (r1, r2) := H
  have A3 := Aside0.mk A30
  clear A30
  simp only [Option.some.injEq, Prod.mk.injEq] at H
  obtain ⟨rfl, rfl⟩ := H
  go_enter Try.func26, Try.ntmps26
  go_wp2_with (first | ((with_reducible refine gate_dst (N := 2) rfl ?_); refine box_event ?hg (N := 2) ?hd (cs := #[.int .i64 a0_0, .slice A0_1 l0_1.length c0_1]) (t := 24) ?hr ?_; (case hd => rfl); (case hg => rfl); (case hr => first | (go_simp; done) | (go_simp; rfl)); intro gb117 hg w4 hbox hb; have n0_ := Aside0.mk (below_step (by repeat (first | (with_reducible first | exact HB.out | apply below_alloc | apply pw_below_drewN | apply below_drew1) | exact HB.out)) hb); have n1_ := Aside0.mk (hbox); have n2_ := Aside0.mk ((by rw [hg]; exact (below_size (by repeat (first | (with_reducible first | exact HB.out | apply below_alloc | apply pw_below_drewN | apply below_drew1) | exact HB.out))) : w.heap.size ≤ gb117)); have n3_ := Aside0.mk ((by rw [hg]; exact (below_size (by repeat (first | (with_reducible first | exact HB.out | apply below_alloc | apply pw_below_drewN | apply below_drew1) | exact HB.out))) : w.heap.size ≤ gb117)); clear HB; have HB := n0_; have BK117 := n1_; have GW117 := n2_; have GE117 := n3_; clear n0_ n1_ n2_ n3_; clear hb hbox hg) | ((with_reducible refine gate_dst (N := 4) rfl ?_); refine box_event ?hg (N := 4) ?hd (cs := #[.int .i64 0, .slice none 0 0]) (t := 24) ?hr ?_; (case hd => rfl); (case hg => rfl); (case hr => first | (go_simp; done) | (go_simp; rfl)); intro gb118 hg w5 hbox hb; have n0_ := Aside0.mk (blk_below (g := gb117) (o := .cells #[.int .i64 a0_0, .slice A0_1 l0_1.length c0_1] 24 (0, 0)) (by (with_reducible repeat (first | refine blk_drewN ?_ _ | refine blk_drew ?_ | refine blk_alloc ?_ _)); exact BK117.out) hb); have n1_ := Aside0.mk (below_step (by repeat (first | (with_reducible first | exact HB.out | apply below_alloc | apply pw_below_drewN | apply below_drew1 | refine below_set ?_ GE117.out) | exact HB.out)) hb); have n2_ := Aside0.mk (hbox); have n3_ := Aside0.mk ((by rw [hg]; exact (below_size (by repeat (first | (with_reducible first | exact HB.out | apply below_alloc | apply pw_below_drewN | apply below_drew1 | refine below_set ?_ GE117.out) | exact HB.out))) : w.heap.size ≤ gb118)); have n4_ := Aside0.mk ((by rw [hg]; exact (below_size (by repeat (first | (with_reducible first | exact HB.out | apply below_alloc | apply pw_below_drewN | apply below_drew1 | refine below_set ?_ GE117.out) | exact HB.out))) : w.heap.size ≤ gb118)); have n5_ := Aside0.mk ((by rw [hg]; exact Nat.ne_of_lt (blk_lt (g := gb117) (o := .cells #[.int .i64 a0_0, .slice A0_1 l0_1.length c0_1] 24 (0, 0)) (by (with_reducible repeat (first | refine blk_drewN ?_ _ | refine blk_drew ?_ | refine blk_alloc ?_ _)); exact BK117.out)) : gb117 ≠ gb118)); have n6_ := Aside0.mk ((by rw [hg]; exact Nat.ne_of_gt (blk_lt (g := gb117) (o := .cells #[.int .i64 a0_0, .slice A0_1 l0_1.length c0_1] 24 (0, 0)) (by (with_reducible repeat (first | refine blk_drewN ?_ _ | refine blk_drew ?_ | refine blk_alloc ?_ _)); exact BK117.out)) : gb118 ≠ gb117)); clear BK117; clear HB; have BK117 := n0_; have HB := n1_; have BK118 := n2_; have GW118 := n3_; have GE118 := n4_; have NB117_118 := n5_; have NB118_117 := n6_; clear n0_ n1_ n2_ n3_ n4_ n5_ n6_; clear hb hbox hg; have hnb6 := NB117_118.out; have hnc6 := NB118_117.out; have hcz7_0 : w5.cell? ⟨gb117, 0, none⟩ = some (.int .i64 a0_0) := (blk_cell BK117.out 0).trans rfl; have hcz7_1 : w5.cell? ⟨gb117, 1, none⟩ = some (.slice A0_1 l0_1.length c0_1) := (blk_cell BK117.out 1).trans rfl; have hfz7_0 := blk_frozen BK117.out 0; have hfz7_1 := blk_frozen BK117.out 1) | ((with_reducible refine gate_callee (f := 49) rfl ?_); refine goesL_ (some 9) rfl rfl Try.func49 (by kernel_rfl) rfl #[.agg #[.int .i64 a0_0, .slice A1 l1.length c1]] rfl (by (try simp only [List.map_toArray, List.map_cons, List.map_nil]); first | done | rfl | (simp only [List.length_drop, List.length_take]; rfl)) ?_; (with_reducible refine (trestlebook_CopyCnf.calls k a0_0 _ _ l1 t119 t120 _ ?side1 ?side2 A3.out).mono ?_); (case side1 => repeat (first | exact (Kd.C_below HR1.out HB.out) | (with_reducible refine Kd.C_alloc ?_ _) | (with_reducible refine Kd.C_drewN ?_ _) | (with_reducible refine Kd.C_drew ?_))); (case side2 => exact HC1.out); rintro e w8 ⟨v121, rfl, ho0, hb⟩; refine ⟨_, rfl, ?_⟩; have n0_ := Aside0.mk (Kd.S_lower ho0 (below_size (by repeat (first | (with_reducible first | exact HB.out | apply below_alloc | apply pw_below_drewN | apply below_drew1 | refine below_set ?_ GE117.out | refine below_set ?_ GE118.out) | exact HB.out)))); have n1_ := Aside0.mk (blk_below (g := gb117) (o := .cells #[.int .i64 a0_0, .slice A0_1 l0_1.length c0_1] 24 (0, 0)) (by (with_reducible repeat (first | refine blk_drewN ?_ _ | refine blk_drew ?_ | refine blk_alloc ?_ _)); exact BK117.out) hb); have n2_ := Aside0.mk (blk_below (g := gb118) (o := .cells #[.int .i64 0, .slice none 0 0] 24 (0, 0)) (by (with_reducible repeat (first | refine blk_drewN ?_ _ | refine blk_drew ?_ | refine blk_alloc ?_ _)); exact BK118.out) hb); have n3_ := Aside0.mk (below_step (by repeat (first | (with_reducible first | exact HB.out | apply below_alloc | apply pw_below_drewN | apply below_drew1 | refine below_set ?_ GE117.out | refine below_set ?_ GE118.out) | exact HB.out)) hb); clear BK117; clear BK118; clear HB; have HO122 := n0_; have BK117 := n1_; have BK118 := n2_; have HB := n3_; clear n0_ n1_ n2_ n3_; (try clear hb); (try clear hb2); (try clear hk); (try clear hi); (try clear ho0); have hcz9_0 : w8.cell? ⟨gb118, 0, none⟩ = some (.int .i64 0) := (blk_cell BK118.out 0).trans rfl; have hcz9_1 : w8.cell? ⟨gb118, 1, none⟩ = some (.slice none 0 0) := (blk_cell BK118.out 1).trans rfl; have hfz9_0 := blk_frozen BK118.out 0; have hfz9_1 := blk_frozen BK118.out 1; obtain ⟨Ao10, co10, eo10⟩ := Kd.S_slice HO122.out; subst eo10))
  refine bodyPost_ret (results_cell_row rfl _ _ gb118 24 #[.int .i64 t119, .slice Ao10 t120.length co10] (0, 0) _ rfl (by (with_reducible repeat (first | refine blk_drewN ?_ _ | refine blk_drew ?_ | refine blk_alloc ?_ _)); refine blk_put (cs := #[.int .i64 t119, .slice none 0 0]) ?_ 1 _ rfl; (with_reducible repeat (first | refine blk_drewN ?_ _ | refine blk_drew ?_ | refine blk_alloc ?_ _)); refine blk_put (cs := #[.int .i64 0, .slice none 0 0]) ?_ 0 _ rfl; (with_reducible repeat (first | refine blk_drewN ?_ _ | refine blk_drew ?_ | refine blk_alloc ?_ _)); exact BK118.out) Try.underlying24 rfl (by kernel_rfl)) rfl ?_
  exact ⟨_, by first | rfl | (simp [errW_none, errW_some] <;> rfl) | (simp [*, errW_none, errW_some] <;> rfl), by (with_reducible repeat (first | apply Kd.S_alloc | apply Kd.S_drewN | apply Kd.S_drew)); exact Kd.S_mono (Kd.S_far (p := ⟨gb118, 1, none⟩) (Kd.S_far (p := ⟨gb118, 0, none⟩) (Kd.S_types HO122.out BK118.out (by decide)) (fun _ hk => hk.2) (.int .i64 t119)) (fun _ hk => hk.2) (.slice Ao10 t120.length co10)) (fun _ hk => trivial), by repeat (first | (with_reducible first | exact HB.out | apply below_alloc | apply pw_below_drewN | apply below_drew1 | refine below_set ?_ GE117.out | refine below_set ?_ GE118.out) | exact HB.out)⟩

end Go.Proofs.Ythhmjfjkbmmcaaa.GCO
namespace Go.Proofs.Ythhmjfjkbmmcaaa
open Go.RowKit Go.Proofs.YthhmjfjkbmmcaaaW.PrintWords Go.Proofs.YthhmjfjkbmmcaaaW.PrintLast Go.Proofs.YthhmjfjkbmmcaaaW.PrintMore

set_option linter.unusedVariables false
set_option linter.unusedSimpArgs false

/-- The answer to taking a variable out of a formula: the form's variables and clauses, what goes, the error. -/
def outAns (vv : Int) (ts : List (List Int)) (e0 v : Int) : Int × List (List Int) × Int × List (List Int) × Int :=
  if e0 ≠ 0 then (0, [], 0, [], e0) else if v < 1 ∨ vv < v then (0, [], 0, [], 5) else
  match outR ts v with
  | none => (0, [], 0, [], 2)
  | some nx => if (tidyv nx).length ≤ 524288 then (vv, tidyv nx, v, gonev ts v, 0) else (0, [], 0, [], 2)

def TopPost (vv : Int) (ts : List (List Int)) (e0 v : Int) (w : World) (e : Ending) (w' : World) : Prop :=
  Below w.heap.size w w' ∧ ∃ a X p d b Y q c g xs ys, e = .returned (.tuple #[.agg #[.int .i64 a, .slice X p d], .agg #[.int .i64 b, .slice Y q c], .int .i64 g]) ∧ p ≤ d ∧ q ≤ c ∧ p = xs.length ∧ q = ys.length ∧ Kd.C kClause w' X p xs ∧ Kd.C kClause w' Y q ys ∧ outAns vv ts e0 v = (a, xs, b, ys, g)

theorem top_zero {vv : Int} {ts : List (List Int)} {e0 v g : Int} {w w' : World} (hb : Below w.heap.size w w') (h : outAns vv ts e0 v = (0, [], 0, [], g)) : TopPost vv ts e0 v w (.returned (.tuple #[.agg #[.int .i64 0, .slice none 0 0], .agg #[.int .i64 0, .slice none 0 0], .int .i64 g])) w' :=
  ⟨hb, 0, none, 0, 0, 0, none, 0, 0, g, [], [], rfl, Nat.le_refl _, Nat.le_refl _, rfl, rfl, Kd.F_now (Kd.F_nil kClause w' (fun _ => True)), Kd.F_now (Kd.F_nil kClause w' (fun _ => True)), h⟩

theorem cnf_field (a b : Value) (w : World) : Sem.run Try.prog (Instr.field 24 (.agg #[a, b]) 1) w = .ok b w := by kernel_rfl
theorem blk_two {w : World} {g j : Nat} {o : Obj} (h : w.heap[j]? = some o) (hne : j ≠ g) (u1 u2 : Value) : ((w.setCell ⟨g, 0, none⟩ u1).setCell ⟨g, 1, none⟩ u2).heap[j]? = some o :=
  (Below.heap_setCell _ ⟨g, 1, none⟩ _ j hne).trans ((Below.heap_setCell _ ⟨g, 0, none⟩ _ j hne).trans h)
theorem S_two {w : World} {g base : Nat} {ok : Nat → Prop} {v : Value} {xs : List (List Int)} (h : Kd.S kClause 43 w base ok v xs) (hok : ∀ k, ok k → k ≠ g) (u1 u2 : Value) : Kd.S kClause 43 ((w.setCell ⟨g, 0, none⟩ u1).setCell ⟨g, 1, none⟩ u2) base ok v xs :=
  Kd.S_far (Kd.S_far h (p := ⟨g, 0, none⟩) hok u1) (p := ⟨g, 1, none⟩) hok u2

set_option maxRecDepth 100000 in
set_option maxHeartbeats 8000000 in
theorem refTop_calls (vv : Int) (A : Option Addr) (n c : Nat) (ls : List (List Int)) (v : Int) (ts : List (List Int)) (e0 : Int) (w : World) (hn : n = ls.length) (hr : Kd.C kClause w A n ls) (hc : n ≤ c)
    (hck : ∃ k, GCO.trestleref19_checked.f k vv ls = some (ts, e0)) (hT : e0 = 0 → (∀ l ∈ ts, Good l) ∧ ts.length ≤ 100000 ∧ vv ≤ 262144)
    (hres : 1 ≤ v → v ≤ vv → ∀ a ∈ ts, ∀ b ∈ ts, ∃ k, GCO.trestleref01_Resolve.f k a b v = some (resv a b v)) (htd : ∀ x, (∀ c ∈ x, Good c) → x.length ≤ 4398046511104 → ∃ k, GCO.trestleref19_tidy.f k x = some (tidyv x))
    (hcg : e0 = 0 → ∃ k, GCO.trestleref19_copied.f k vv ls (gonev ts v) = some (vv, gonev ts v)) (hcn : ∀ nx, outR ts v = some nx → (tidyv nx).length ≤ 524288 → ∃ k, GCO.trestleref19_copied.f k vv ls (tidyv nx) = some (vv, tidyv nx)) :
    Calls Try.prog 9 #[.agg #[.int .i64 vv, .slice A n c], .int .i64 v] w (TopPost vv ts e0 v w) := by
  have HR := Aside0.mk hr
  have HT := Aside0.mk hT
  have HRS := Aside0.mk hres
  have HTD := Aside0.mk htd
  have HCG := Aside0.mk hcg
  have HCN := Aside0.mk hcn
  have HN := Aside0.mk hn
  obtain ⟨mt, hmt⟩ : ∃ m, m = ts.length := ⟨_, rfl⟩
  have HMT := Aside0.mk hmt
  have HCK : Aside0 (∀ W, Below w.heap.size w W → Calls Try.prog 24 #[.agg #[.int .i64 vv, .slice A n c]] W fun e w' => ∃ X cx, e = .returned (.tuple #[.slice X mt cx, .int .i64 e0]) ∧ mt ≤ cx ∧ Kd.F kClause w' (fun k => W.heap.size ≤ k) X mt ts ∧ Below W.heap.size W w') := ⟨fun W hW => by
    obtain ⟨k, hk⟩ := hck
    subst hn
    rw [hmt]
    refine (GCO.trestleref19_checked.calls k vv A c ls ts e0 W (Kd.C_below hr hW) hc hk).mono ?_
    rintro e w' ⟨v0, rfl, hN, hB⟩
    obtain ⟨X, cx, rfl, h2, _⟩ := Kd.N_reads hN
    exact ⟨X, cx, rfl, h2, Kd.N_F hN, hB⟩⟩
  obtain ⟨w0, hw0⟩ : ∃ w0, w0 = ((w.alloc (.cells #[.int .i64 vv, .slice A n c] 24)).alloc (.cells #[.int .i64 0, .slice none 0 0] 24)).alloc (.cells #[.int .i64 0, .slice none 0 0] 29) := ⟨_, rfl⟩
  have HW0 := Aside0.mk hw0
  have hx : w0.heap[w.heap.size]? = some (.cells #[.int .i64 vv, .slice A n c] 24 (0, 0)) := by rw [hw0]; exact blk_alloc (blk_alloc (heap_alloc_new w _) _) _
  have hx0 : (((w.alloc (.cells #[.int .i64 vv, .slice A n c] 24)).alloc (.cells #[.int .i64 0, .slice none 0 0] 24)).alloc (.cells #[.int .i64 0, .slice none 0 0] 29)).cell? ⟨w.heap.size, 0, none⟩ = some (.int .i64 vv) := by rw [← hw0]; exact blk_cell hx 0
  have hx1 : (((w.alloc (.cells #[.int .i64 vv, .slice A n c] 24)).alloc (.cells #[.int .i64 0, .slice none 0 0] 24)).alloc (.cells #[.int .i64 0, .slice none 0 0] 29)).cell? ⟨w.heap.size, 1, none⟩ = some (.slice A n c) := by rw [← hw0]; exact blk_cell hx 1
  have hk4 : w0.heap[w.heap.size + 1]? = some (.cells #[.int .i64 0, .slice none 0 0] 24 (0, 0)) := by
    rw [hw0]
    refine blk_alloc ?_ _
    have := heap_alloc_new (w.alloc (.cells #[.int .i64 vv, .slice A n c] 24)) (.cells #[.int .i64 0, .slice none 0 0] 24)
    simpa using this
  have hk5 : w0.heap[w.heap.size + 1 + 1]? = some (.cells #[.int .i64 0, .slice none 0 0] 29 (0, 0)) := by
    rw [hw0]
    have := heap_alloc_new ((w.alloc (.cells #[.int .i64 vv, .slice A n c] 24)).alloc (.cells #[.int .i64 0, .slice none 0 0] 24)) (.cells #[.int .i64 0, .slice none 0 0] 29)
    simpa using this
  have HK2 := Aside0.mk hx
  have HK4 := Aside0.mk hk4
  have HK5 := Aside0.mk hk5
  have HSZ := Aside0.mk (show w0.heap.size = w.heap.size + 3 by rw [hw0]; simp)
  have HBW := Aside0.mk (show Below w.heap.size w w0 by rw [hw0]; exact below_alloc (below_alloc (below_alloc (Below.refl _ _) _) _) _)
  have HOC : Aside0 (∀ (Q : Nat → Prop) (W : World) (X : Option Addr) (cx : Nat), e0 = 0 → 1 ≤ v → v ≤ vv → Kd.F kClause W Q X mt ts → mt ≤ cx → Calls Try.prog 25 #[.slice X mt cx, .int .i64 v] W (OutPost ts v W)) := ⟨fun Q W X cx h0 h1 h2 hF hcx => by
    obtain ⟨g1, g2, g3⟩ := HT.out h0
    exact refOut_calls Q X mt cx ts v W HMT.out hF hcx g1 (by unfold LitOk; omega) (by rw [HMT.out]; exact g2) (HRS.out h1 h2) HTD.out⟩
  obtain ⟨B, hBq⟩ : ∃ B, B = w.heap.size := ⟨_, rfl⟩
  have HBQ := Aside0.mk hBq
  have HCA := Aside0.mk hc
  have hu24 := Try.underlying24
  clear hn hr hck hT hres htd hcg hcn hw0 hx hmt hk4 hk5 hBq
  go_enter Try.func9, Try.ntmps9
  by_cases he0 : e0 = 0
  · have hb0 : (e0 == 0) = true := beq_iff_eq.2 he0
    have hb1 : (e0 != 0) = false := bne_eq_false_iff_eq.2 he0
    have HE0 := Aside0.mk he0
    clear he0
    by_cases hv1 : v < 1
    · have hd1 : decide (v < 1) = true := decide_eq_true hv1
      go_wp2_with (go_at_call 24; rw [← HW0.out]; refine (HCK.out _ HBW.out).mono ?_; rintro e w1 ⟨X, cx, rfl, hcx, hF, hb⟩; rw [← HBQ.out]; have HFX := Aside0.mk hF; have HX2 := Aside0.mk (blk_below HK2.out hb); have HX4 := Aside0.mk (blk_below HK4.out hb); have HX5 := Aside0.mk (blk_below HK5.out hb); have HB1 := Aside0.mk (HBW.out.trans (hb.mono (by have := HSZ.out; omega))); have HS1 := Aside0.mk (show w.heap.size + 3 ≤ w1.heap.size by have := HSZ.out; have := hb.size; omega); clear hF hb; rw [← HBQ.out] at HX2 HX4 HX5 HB1 HS1; have hy0 := blk_cell HX2.out 0; have hc0 := blk_cell HX4.out 0; have hc1 := blk_cell HX4.out 1; have hc2 := blk_cell HX5.out 0; have hc3 := blk_cell HX5.out 1; have hf0 := blk_frozen HX4.out 0; have hf1 := blk_frozen HX4.out 1; have hf2 := blk_frozen HX5.out 0; have hf3 := blk_frozen HX5.out 1)
      refine bodyPost_ret (results_list (rs := [.cell 4 24, .cell 5 29, .tmp 6]) rfl (by simp) (.cell (B + 1) 24 #[.int .i64 0, .slice none 0 0] (0, 0) _ rfl ((Below.heap_setCell _ ⟨B + 1 + 1, 1, none⟩ _ (B + 1) (by show B + 1 ≠ B + 1 + 1; omega)).trans ((Below.heap_setCell _ ⟨B + 1 + 1, 0, none⟩ _ (B + 1) (by show B + 1 ≠ B + 1 + 1; omega)).trans (blk_put (blk_put HX4.out 0 _ rfl) 1 _ rfl))) Try.underlying24 rfl (by kernel_rfl) (.cell (B + 1 + 1) 29 #[.int .i64 0, .slice none 0 0] (0, 0) _ rfl (blk_put (blk_put ((Below.heap_setCell _ ⟨B + 1, 1, none⟩ _ (B + 1 + 1) (by show B + 1 + 1 ≠ B + 1; omega)).trans ((Below.heap_setCell _ ⟨B + 1, 0, none⟩ _ (B + 1 + 1) (by show B + 1 + 1 ≠ B + 1; omega)).trans HX5.out)) 0 _ rfl) 1 _ rfl) Try.underlying29 rfl (by kernel_rfl) (.tmp .nil)))) rfl ?_
      refine top_zero ?_ ?_
      · rw [← HBQ.out]
        exact (((HB1.out.setCell (p := ⟨B + 1, 0, none⟩) (Nat.le_succ B) _).setCell (p := ⟨B + 1, 1, none⟩) (Nat.le_succ B) _).setCell (p := ⟨B + 1 + 1, 0, none⟩) (by show B ≤ B + 1 + 1; omega) _).setCell (p := ⟨B + 1 + 1, 1, none⟩) (by show B ≤ B + 1 + 1; omega) _
      · unfold outAns; rw [if_neg (fun h => h HE0.out), if_pos (by omega)]
    · have hd1 : decide (v < 1) = false := decide_eq_false hv1
      by_cases hv2 : vv < v
      · have hd2 : decide (vv < v) = true := decide_eq_true hv2
        have hd3 : decide (v > vv) = true := decide_eq_true hv2
        go_wp2_with (go_at_call 24; rw [← HW0.out]; refine (HCK.out _ HBW.out).mono ?_; rintro e w1 ⟨X, cx, rfl, hcx, hF, hb⟩; rw [← HBQ.out]; have HFX := Aside0.mk hF; have HX2 := Aside0.mk (blk_below HK2.out hb); have HX4 := Aside0.mk (blk_below HK4.out hb); have HX5 := Aside0.mk (blk_below HK5.out hb); have HB1 := Aside0.mk (HBW.out.trans (hb.mono (by have := HSZ.out; omega))); have HS1 := Aside0.mk (show w.heap.size + 3 ≤ w1.heap.size by have := HSZ.out; have := hb.size; omega); clear hF hb; rw [← HBQ.out] at HX2 HX4 HX5 HB1 HS1; have hy0 := blk_cell HX2.out 0; have hc0 := blk_cell HX4.out 0; have hc1 := blk_cell HX4.out 1; have hc2 := blk_cell HX5.out 0; have hc3 := blk_cell HX5.out 1; have hf0 := blk_frozen HX4.out 0; have hf1 := blk_frozen HX4.out 1; have hf2 := blk_frozen HX5.out 0; have hf3 := blk_frozen HX5.out 1)
        refine bodyPost_ret (results_list (rs := [.cell 4 24, .cell 5 29, .tmp 6]) rfl (by simp) (.cell (B + 1) 24 #[.int .i64 0, .slice none 0 0] (0, 0) _ rfl ((Below.heap_setCell _ ⟨B + 1 + 1, 1, none⟩ _ (B + 1) (by show B + 1 ≠ B + 1 + 1; omega)).trans ((Below.heap_setCell _ ⟨B + 1 + 1, 0, none⟩ _ (B + 1) (by show B + 1 ≠ B + 1 + 1; omega)).trans (blk_put (blk_put HX4.out 0 _ rfl) 1 _ rfl))) Try.underlying24 rfl (by kernel_rfl) (.cell (B + 1 + 1) 29 #[.int .i64 0, .slice none 0 0] (0, 0) _ rfl (blk_put (blk_put ((Below.heap_setCell _ ⟨B + 1, 1, none⟩ _ (B + 1 + 1) (by show B + 1 + 1 ≠ B + 1; omega)).trans ((Below.heap_setCell _ ⟨B + 1, 0, none⟩ _ (B + 1 + 1) (by show B + 1 + 1 ≠ B + 1; omega)).trans HX5.out)) 0 _ rfl) 1 _ rfl) Try.underlying29 rfl (by kernel_rfl) (.tmp .nil)))) rfl ?_
        refine top_zero ?_ ?_
        · rw [← HBQ.out]
          exact (((HB1.out.setCell (p := ⟨B + 1, 0, none⟩) (Nat.le_succ B) _).setCell (p := ⟨B + 1, 1, none⟩) (Nat.le_succ B) _).setCell (p := ⟨B + 1 + 1, 0, none⟩) (by show B ≤ B + 1 + 1; omega) _).setCell (p := ⟨B + 1 + 1, 1, none⟩) (by show B ≤ B + 1 + 1; omega) _
        · unfold outAns; rw [if_neg (fun h => h HE0.out), if_pos (by omega)]
      · have hd2 : decide (vv < v) = false := decide_eq_false hv2
        have hd3 : decide (v > vv) = false := decide_eq_false hv2
        have hv3 : 1 ≤ v := by omega
        have hv4 : v ≤ vv := by omega
        rcases hout : outR ts v with _ | nx
        · have HO := Aside0.mk hout
          have HQ : Aside0 (∀ (Q : Nat → Prop) (W : World) (X : Option Addr) (cx : Nat), Kd.F kClause W Q X mt ts → mt ≤ cx → Calls Try.prog 25 #[.slice X mt cx, .int .i64 v] W fun e w' => e = .returned (.tuple #[.slice none 0 0, .agg #[.int .i64 0, .slice none 0 0], .bool false]) ∧ Below W.heap.size W w') := ⟨fun Q W X cx hF hcx => by
            refine (HOC.out Q W X cx HE0.out hv3 hv4 hF hcx).mono ?_
            rintro e w' (⟨_, rfl, hB⟩ | ⟨nx, _, _, _, _, h, _⟩)
            · exact ⟨rfl, hB⟩
            · rw [hout] at h; cases h⟩
          clear hout
          go_wp2_with (first | (go_at_call 24; rw [← HW0.out]; refine (HCK.out _ HBW.out).mono ?_; rintro e w1 ⟨X, cx, rfl, hcx, hF, hb⟩; rw [← HBQ.out]; have HFX := Aside0.mk hF; have HX2 := Aside0.mk (blk_below HK2.out hb); have HX4 := Aside0.mk (blk_below HK4.out hb); have HX5 := Aside0.mk (blk_below HK5.out hb); have HB1 := Aside0.mk (HBW.out.trans (hb.mono (by have := HSZ.out; omega))); have HS1 := Aside0.mk (show w.heap.size + 3 ≤ w1.heap.size by have := HSZ.out; have := hb.size; omega); clear hF hb; rw [← HBQ.out] at HX2 HX4 HX5 HB1 HS1; have hy0 := blk_cell HX2.out 0; have hc0 := blk_cell HX4.out 0; have hc1 := blk_cell HX4.out 1; have hc2 := blk_cell HX5.out 0; have hc3 := blk_cell HX5.out 1; have hf0 := blk_frozen HX4.out 0; have hf1 := blk_frozen HX4.out 1; have hf2 := blk_frozen HX5.out 0; have hf3 := blk_frozen HX5.out 1) | (go_at_call 25; refine (HQ.out _ _ _ _ HFX.out hcx).mono ?_; rintro e w2 ⟨rfl, hb2⟩; clear hc0 hc1 hc2 hc3 hf0 hf1 hf2 hf3; have hD : B + 3 ≤ w2.heap.size := (by have := HS1.out; have := hb2.size; omega); have hz : (w2.alloc (.cells #[(.int .i64 0), (.slice none 0 0)] 29)).heap[w2.heap.size]? = some (.cells #[(.int .i64 0), (.slice none 0 0)] 29 (0, 0)) := heap_alloc_new w2 _; have hz0 := blk_cell hz 0; have hz1 := blk_cell hz 1; have hzf0 := blk_frozen hz 0; have hzf1 := blk_frozen hz 1; have HY2 := Aside0.mk (blk_alloc (blk_below HX2.out hb2) (.cells #[(.int .i64 0), (.slice none 0 0)] 29)); have HY4 := Aside0.mk (blk_alloc (blk_below HX4.out hb2) (.cells #[(.int .i64 0), (.slice none 0 0)] 29)); have HY5 := Aside0.mk (blk_alloc (blk_below HX5.out hb2) (.cells #[(.int .i64 0), (.slice none 0 0)] 29)); have HB3 := Aside0.mk (show Below B w (w2.alloc (.cells #[(.int .i64 0), (.slice none 0 0)] 29)) by rw [HBQ.out]; exact below_alloc ((by rw [← HBQ.out]; exact HB1.out : Below w.heap.size w w1).trans (hb2.mono (by have := HS1.out; have := HBQ.out; omega))) _); have HZ := Aside0.mk hz; clear hb2 hz hy0; have hc0 := blk_cell HY4.out 0; have hc1 := blk_cell HY4.out 1; have hc2 := blk_cell HY5.out 0; have hc3 := blk_cell HY5.out 1; have hf0 := blk_frozen HY4.out 0; have hf1 := blk_frozen HY4.out 1; have hf2 := blk_frozen HY5.out 0; have hf3 := blk_frozen HY5.out 1))
          refine bodyPost_ret (results_list (rs := [.cell 4 24, .cell 5 29, .tmp 6]) rfl (by simp) (.cell (B + 1) 24 #[.int .i64 0, .slice none 0 0] (0, 0) _ rfl ((Below.heap_setCell _ ⟨B + 1 + 1, 1, none⟩ _ (B + 1) (by show B + 1 ≠ B + 1 + 1; omega)).trans ((Below.heap_setCell _ ⟨B + 1 + 1, 0, none⟩ _ (B + 1) (by show B + 1 ≠ B + 1 + 1; omega)).trans (blk_put (blk_put HY4.out 0 _ rfl) 1 _ rfl))) Try.underlying24 rfl (by kernel_rfl) (.cell (B + 1 + 1) 29 #[.int .i64 0, .slice none 0 0] (0, 0) _ rfl (blk_put (blk_put ((Below.heap_setCell _ ⟨B + 1, 1, none⟩ _ (B + 1 + 1) (by show B + 1 + 1 ≠ B + 1; omega)).trans ((Below.heap_setCell _ ⟨B + 1, 0, none⟩ _ (B + 1 + 1) (by show B + 1 + 1 ≠ B + 1; omega)).trans HY5.out)) 0 _ rfl) 1 _ rfl) Try.underlying29 rfl (by kernel_rfl) (.tmp .nil)))) rfl ?_
          refine top_zero ?_ ?_
          · rw [← HBQ.out]
            exact (((HB3.out.setCell (p := ⟨B + 1, 0, none⟩) (Nat.le_succ B) _).setCell (p := ⟨B + 1, 1, none⟩) (Nat.le_succ B) _).setCell (p := ⟨B + 1 + 1, 0, none⟩) (by show B ≤ B + 1 + 1; omega) _).setCell (p := ⟨B + 1 + 1, 1, none⟩) (by show B ≤ B + 1 + 1; omega) _
          · unfold outAns; rw [if_neg (fun h => h HE0.out), if_neg (by omega), HO.out]
        · have HO := Aside0.mk hout
          obtain ⟨nl, hnl⟩ : ∃ m, m = (tidyv nx).length := ⟨_, rfl⟩
          obtain ⟨gl, hgl⟩ : ∃ m, m = (gonev ts v).length := ⟨_, rfl⟩
          have HNL := Aside0.mk hnl
          have HGL := Aside0.mk hgl
          by_cases hbig : nl ≤ 524288
          · have hbd : decide ((nl : Int) ≤ 524288) = true := decide_eq_true (by omega)
            have HQ : Aside0 (∀ (Q : Nat → Prop) (W : World) (X : Option Addr) (cx : Nat), Kd.F kClause W Q X mt ts → mt ≤ cx → Calls Try.prog 25 #[.slice X mt cx, .int .i64 v] W fun e w' => ∃ Y d G cg, e = .returned (.tuple #[.slice Y nl d, .agg #[.int .i64 v, .slice G gl cg], .bool true]) ∧ nl ≤ d ∧ Kd.C kClause w' Y nl (tidyv nx) ∧ gl ≤ cg ∧ Kd.C kClause w' G gl (gonev ts v) ∧ Below W.heap.size W w') := ⟨fun Q W X cx hF hcx => by
              refine (HOC.out Q W X cx HE0.out hv3 hv4 hF hcx).mono ?_
              rintro e w' (⟨h, _⟩ | ⟨nx', Y, d, G, cg, h, rfl, h1, h2, h3, h4, hB⟩)
              · rw [hout] at h; cases h
              · obtain rfl : nx = nx' := Option.some.inj (hout.symm.trans h)
                rw [← hnl] at h1 h2 ⊢
                rw [← hgl] at h3 h4 ⊢
                exact ⟨Y, d, G, cg, by rw [hbd], h1, h2, h3, h4, hB⟩⟩
            have HC1 : Aside0 (∀ W, Below w.heap.size w W → ∀ (Z : Option Addr) (cz : Nat), Kd.C kClause W Z gl (gonev ts v) → gl ≤ cz → Calls Try.prog 26 #[.agg #[.int .i64 vv, .slice A n c], .slice Z gl cz] W fun e w' => ∃ Z' cz', e = .returned (.agg #[.int .i64 vv, .slice Z' gl cz']) ∧ gl ≤ cz' ∧ Kd.S kClause 43 w' W.heap.size (fun k => W.heap.size ≤ k) (.slice Z' gl cz') (gonev ts v) ∧ Below W.heap.size W w') := ⟨fun W hW Z cz hZ hcz => by
              obtain ⟨k, hk⟩ := HCG.out HE0.out
              have hR := Kd.C_below HR.out hW
              have hcA := HCA.out
              have hnn := HN.out
              subst hnn
              rw [hgl] at hZ hcz ⊢
              refine (GCO.trestleref19_copied.calls k vv A c ls Z cz (gonev ts v) vv (gonev ts v) W hR hcA hZ hcz hk).mono ?_
              rintro e w' ⟨v1, rfl, hS, hB⟩
              obtain ⟨Z', cz', rfl⟩ := Kd.S_slice hS
              exact ⟨Z', cz', rfl, (Kd.S_reads' hS).2.1, Kd.S_mono (Kd.S_bound hS) (fun k hk => hk.2.1), hB⟩⟩
            have HC2 : Aside0 (∀ W, Below w.heap.size w W → ∀ (Z : Option Addr) (cz : Nat), Kd.C kClause W Z nl (tidyv nx) → nl ≤ cz → Calls Try.prog 26 #[.agg #[.int .i64 vv, .slice A n c], .slice Z nl cz] W fun e w' => ∃ Z' cz', e = .returned (.agg #[.int .i64 vv, .slice Z' nl cz']) ∧ nl ≤ cz' ∧ Kd.S kClause 43 w' W.heap.size (fun k => W.heap.size ≤ k) (.slice Z' nl cz') (tidyv nx) ∧ Below W.heap.size W w') := ⟨fun W hW Z cz hZ hcz => by
              obtain ⟨k, hk⟩ := HCN.out nx HO.out (by rw [← hnl]; exact hbig)
              have hR := Kd.C_below HR.out hW
              have hcA := HCA.out
              have hnn := HN.out
              subst hnn
              rw [hnl] at hZ hcz ⊢
              refine (GCO.trestleref19_copied.calls k vv A c ls Z cz (tidyv nx) vv (tidyv nx) W hR hcA hZ hcz hk).mono ?_
              rintro e w' ⟨v1, rfl, hS, hB⟩
              obtain ⟨Z', cz', rfl⟩ := Kd.S_slice hS
              exact ⟨Z', cz', rfl, (Kd.S_reads' hS).2.1, Kd.S_mono (Kd.S_bound hS) (fun k hk => hk.2.1), hB⟩⟩
            have HBIG := Aside0.mk hbig
            clear hout hnl hgl hbd hbig
            go_wp2_with (first | (go_at_call 24; rw [← HW0.out]; refine (HCK.out _ HBW.out).mono ?_; rintro e w1 ⟨X, cx, rfl, hcx, hF, hb⟩; rw [← HBQ.out]; have HFX := Aside0.mk hF; have HX2 := Aside0.mk (blk_below HK2.out hb); have HX4 := Aside0.mk (blk_below HK4.out hb); have HX5 := Aside0.mk (blk_below HK5.out hb); have HB1 := Aside0.mk (HBW.out.trans (hb.mono (by have := HSZ.out; omega))); have HS1 := Aside0.mk (show w.heap.size + 3 ≤ w1.heap.size by have := HSZ.out; have := hb.size; omega); clear hF hb; rw [← HBQ.out] at HX2 HX4 HX5 HB1 HS1; have hy0 := blk_cell HX2.out 0; have hc0 := blk_cell HX4.out 0; have hc1 := blk_cell HX4.out 1; have hc2 := blk_cell HX5.out 0; have hc3 := blk_cell HX5.out 1; have hf0 := blk_frozen HX4.out 0; have hf1 := blk_frozen HX4.out 1; have hf2 := blk_frozen HX5.out 0; have hf3 := blk_frozen HX5.out 1) | (go_at_call 25; refine (HQ.out _ _ _ _ HFX.out hcx).mono ?_; rintro e w2 ⟨Y, d, G, cg, rfl, hd, hCY, hcg, hCG, hb2⟩; clear hc0 hc1 hc2 hc3 hf0 hf1 hf2 hf3; have hD : B + 3 ≤ w2.heap.size := (by have := HS1.out; have := hb2.size; omega); have hz : (w2.alloc (.cells #[(.int .i64 v), (.slice G gl cg)] 29)).heap[w2.heap.size]? = some (.cells #[(.int .i64 v), (.slice G gl cg)] 29 (0, 0)) := heap_alloc_new w2 _; have hz0 := blk_cell hz 0; have hz1 := blk_cell hz 1; have hzf0 := blk_frozen hz 0; have hzf1 := blk_frozen hz 1; have HY2 := Aside0.mk (blk_alloc (blk_below HX2.out hb2) (.cells #[(.int .i64 v), (.slice G gl cg)] 29)); have HY4 := Aside0.mk (blk_alloc (blk_below HX4.out hb2) (.cells #[(.int .i64 v), (.slice G gl cg)] 29)); have HY5 := Aside0.mk (blk_alloc (blk_below HX5.out hb2) (.cells #[(.int .i64 v), (.slice G gl cg)] 29)); have HB3 := Aside0.mk (show Below B w (w2.alloc (.cells #[(.int .i64 v), (.slice G gl cg)] 29)) by rw [HBQ.out]; exact below_alloc ((by rw [← HBQ.out]; exact HB1.out : Below w.heap.size w w1).trans (hb2.mono (by have := HS1.out; have := HBQ.out; omega))) _); have HZ := Aside0.mk hz; clear hb2 hz hy0; have HCY := Aside0.mk hCY; have HCG2 := Aside0.mk hCG; clear hCY hCG; have hy0 := blk_cell HY2.out 0; have hy1 := blk_cell HY2.out 1) | (go_at_call 26; refine (HC1.out _ (by rw [← HBQ.out]; exact HB3.out) G cg (Kd.C_below HCG2.out (below_alloc (Below.refl _ _) _)) hcg).mono ?_; rintro e w4 ⟨G', cg', rfl, hcg', hS, hb4⟩; have HS4 := Aside0.mk hS; have HB4 := Aside0.mk hb4; have hq1 := blk_cell (blk_below HZ.out hb4) 1; have hqf := blk_frozen (blk_below HZ.out hb4) 1; have hfd := cnf_field (.int .i64 vv) (.slice G' gl cg') w4; clear hS hb4))
            obtain ⟨D, hDq⟩ : ∃ D, D = w2.heap.size := ⟨_, rfl⟩
            rw [← hDq]
            obtain ⟨w5, hw5⟩ : ∃ w5, w5 = w4.setCell ⟨D, 1, none⟩ (.slice G' gl cg') := ⟨_, rfl⟩
            rw [← hw5]
            have HV2 := Aside0.mk (show w5.heap[B]? = some (.cells #[.int .i64 vv, .slice A n c] 24 (0, 0)) by rw [hw5]; exact (Below.heap_setCell _ ⟨D, 1, none⟩ _ B (by show B ≠ D; omega)).trans (blk_below HY2.out HB4.out))
            have HV4 := Aside0.mk (show w5.heap[B + 1]? = some (.cells #[.int .i64 0, .slice none 0 0] 24 (0, 0)) by rw [hw5]; exact (Below.heap_setCell _ ⟨D, 1, none⟩ _ (B + 1) (by show B + 1 ≠ D; omega)).trans (blk_below HY4.out HB4.out))
            have HV5 := Aside0.mk (show w5.heap[B + 1 + 1]? = some (.cells #[.int .i64 0, .slice none 0 0] 29 (0, 0)) by rw [hw5]; exact (Below.heap_setCell _ ⟨D, 1, none⟩ _ (B + 1 + 1) (by show B + 1 + 1 ≠ D; omega)).trans (blk_below HY5.out HB4.out))
            have HVD := Aside0.mk (show w5.heap[D]? = some (.cells #[.int .i64 v, .slice G' gl cg'] 29 (0, 0)) by rw [hw5]; exact blk_put (by rw [hDq]; exact blk_below HZ.out HB4.out) 1 _ rfl)
            have hsz : (w2.alloc (.cells #[.int .i64 v, .slice G gl cg] 29)).heap.size = D + 1 := by rw [hDq]; simp
            have HSG := Aside0.mk (show Kd.S kClause 43 w5 (D + 1) (fun k => D + 1 ≤ k) (.slice G' gl cg') (gonev ts v) by
              have h1 := HS4.out
              rw [hsz] at h1
              rw [hw5]
              exact Kd.S_far h1 (p := ⟨D, 1, none⟩) (fun k hk => by show k ≠ D; omega) _)
            have hb24 : Below w2.heap.size w2 w5 := by
              have h1 := HB4.out
              rw [hsz] at h1
              rw [hw5]
              exact ((below_alloc (Below.refl _ _) _).trans (h1.mono (by omega))).setCell (p := ⟨D, 1, none⟩) (by show w2.heap.size ≤ D; omega) _
            have HDS := Aside0.mk (show D + 1 ≤ w5.drew.heap.size by have := blk_lt (blk_drew HVD.out); omega)
            have HCYd := Aside0.mk (Kd.C_below HCY.out (below_drew hb24))
            have HBd := Aside0.mk (show Below w.heap.size w w5.drew by
              have h1 := HB4.out
              rw [hsz] at h1
              have h2 := HB3.out
              rw [hw5]
              refine below_drew ?_
              rw [HBQ.out] at h2
              exact (h2.trans (h1.mono (by have := HBQ.out; omega))).setCell (p := ⟨D, 1, none⟩) (by have := HBQ.out; show w.heap.size ≤ D; omega) _)
            have hx20 := blk_cell (blk_drew HV2.out) 0
            have hx21 := blk_cell (blk_drew HV2.out) 1
            have hxd0 := blk_cell (blk_drew HVD.out) 0
            have hxd1 := blk_cell (blk_drew HVD.out) 1
            have hDB : B + 3 ≤ D := by omega
            clear hw5 hDq hsz hb24 hq1 hqf hz0 hz1 hzf0 hzf1 hy0 hy1 hx0 hx1
            refine start_ (n := 7) (S := fun w' => w'.cell? ⟨B, 0, none⟩ = some (.int .i64 vv) ∧ w'.cell? ⟨B, 1, none⟩ = some (.slice A n c) ∧ w'.cell? ⟨D, 0, none⟩ = some (.int .i64 v) ∧ w'.cell? ⟨D, 1, none⟩ = some (.slice G' gl cg')) (ds := []) #[false, false, false, false, false, false, false] (by kernel_rfl) rfl rfl ⟨hx20, hx21, hxd0, hxd1⟩ (fun hHeld => ?_)
            refine take_ (i := 0) (N := (some 49)) (v := ?_) (a' := ?_) #[true, false, false, false, false, false, false] rfl rfl (by kernel_rfl) (fun _ _ _ h => h) (Or.inl ⟨by rfl, ?_⟩) hHeld ?_ ?_
            rotate_left
            · rintro w' ⟨s0, s1, s2, s3⟩
              go_simp
              with_reducible rfl
            rotate_left
            · simp only [Act.put, List.setIfInBounds_toArray, List.set_cons_zero, List.set_cons_succ, i64_w, i32_w]
              rfl
            refine pure_ (i := 1) (N := (some 50)) (v := ?_) (a' := ?_) #[true, true, false, false, false, false, false] rfl rfl (by kernel_rfl) (fun _ _ _ h => h) (Or.inl ⟨by rfl, ?_⟩) ?_ ?_
            rotate_left
            · intro w'
              go_simp
              with_reducible rfl
            rotate_left
            · simp only [Act.put, List.setIfInBounds_toArray, List.set_cons_zero, List.set_cons_succ, i64_w, i32_w]
              rfl
            refine take_ (i := 3) (N := (some 52)) (v := ?_) (a' := ?_) #[true, true, false, true, false, false, false] rfl rfl (by kernel_rfl) (fun _ _ _ h => h) (Or.inl ⟨by rfl, ?_⟩) hHeld ?_ ?_
            rotate_left
            · rintro w' ⟨s0, s1, s2, s3⟩
              go_simp
              with_reducible rfl
            rotate_left
            · simp only [Act.put, List.setIfInBounds_toArray, List.set_cons_zero, List.set_cons_succ, i64_w, i32_w]
              rfl
            refine one_ (i := 2) (N := (some 51)) #[true, true, true, true, false, false, false] rfl rfl (by kernel_rfl) (by decide) (fun K hK => ?_)
            refine goes_ Try.func26 (by kernel_rfl) rfl #[.agg #[.int .i64 vv, .slice A n c], .slice Y nl d] (by rfl) rfl rfl (by (try simp only [List.map_toArray, List.map_cons, List.map_nil]); first | done | rfl) ?_
            refine (HC2.out _ HBd.out Y d HCYd.out hd).mono ?_
            rintro e w6 ⟨Y', d', rfl, hd', hS', hb6⟩
            refine ⟨_, rfl, ?_⟩
            have HV2' := Aside0.mk (blk_below (blk_drew HV2.out) hb6)
            have HV4' := Aside0.mk (blk_below (blk_drew HV4.out) hb6)
            have HV5' := Aside0.mk (blk_below (blk_drew HV5.out) hb6)
            have HVD' := Aside0.mk (blk_below (blk_drew HVD.out) hb6)
            have HSG6 := Aside0.mk (Kd.S_below (Kd.S_drew HSG.out) hb6)
            have HSY6 := Aside0.mk hS'
            have HB6 := Aside0.mk (HBd.out.trans (hb6.mono (by have := HDS.out; have := HBQ.out; omega)))
            clear hS' hb6
            have hc0 := blk_cell HV4'.out 0
            have hc1 := blk_cell HV4'.out 1
            have hc2 := blk_cell HV5'.out 0
            have hc3 := blk_cell HV5'.out 1
            have hf0 := blk_frozen HV4'.out 0
            have hf1 := blk_frozen HV4'.out 1
            have hf2 := blk_frozen HV5'.out 0
            have hf3 := blk_frozen HV5'.out 1
            refine hK.out _ _ ⟨blk_cell HV2'.out 0, blk_cell HV2'.out 1, blk_cell HVD'.out 0, blk_cell HVD'.out 1⟩ (fun hHeld => ?_)
            clear hK K
            refine norm_ (a' := ?_) ?_ ?_
            rotate_left
            · show Act.put _ (some 51) _ = _
              simp only [Act.put, List.setIfInBounds_toArray, List.set_cons_zero, List.set_cons_succ, i64_w, i32_w]
              rfl
            refine one_ (i := 4) (N := none) #[true, true, true, true, true, false, false] rfl rfl (by kernel_rfl) (by decide) (fun K hK => ?_)
            refine skip_ (w1 := ?_) (by rfl) rfl ?_ ?_
            rotate_left
            · go_simp
              rfl
            refine hK.out _ _ ⟨blk_cell (blk_two HV2'.out (show B ≠ B + 1 by omega) _ _) 0, blk_cell (blk_two HV2'.out (show B ≠ B + 1 by omega) _ _) 1, blk_cell (blk_two HVD'.out (show D ≠ B + 1 by omega) _ _) 0, blk_cell (blk_two HVD'.out (show D ≠ B + 1 by omega) _ _) 1⟩ (fun hHeld => ?_)
            clear hK K
            refine one_ (i := 5) (N := none) #[true, true, true, true, true, true, false] rfl rfl (by kernel_rfl) (by decide) (fun K hK => ?_)
            refine skip_ (w1 := ?_) (by rfl) rfl ?_ ?_
            rotate_left
            · go_simp
              rfl
            refine hK.out _ _ ⟨blk_cell (blk_two (blk_two HV2'.out (show B ≠ B + 1 by omega) _ _) (show B ≠ B + 1 + 1 by omega) _ _) 0, blk_cell (blk_two (blk_two HV2'.out (show B ≠ B + 1 by omega) _ _) (show B ≠ B + 1 + 1 by omega) _ _) 1, blk_cell (blk_two (blk_two HVD'.out (show D ≠ B + 1 by omega) _ _) (show D ≠ B + 1 + 1 by omega) _ _) 0, blk_cell (blk_two (blk_two HVD'.out (show D ≠ B + 1 by omega) _ _) (show D ≠ B + 1 + 1 by omega) _ _) 1⟩ (fun hHeld => ?_)
            clear hK K
            refine pure_ (i := 6) (N := (some 6)) (v := ?_) (a' := ?_) #[true, true, true, true, true, true, true] rfl rfl (by kernel_rfl) (fun _ _ _ h => h) (Or.inl ⟨by rfl, ?_⟩) ?_ ?_
            rotate_left
            · intro w'
              go_simp
              with_reducible rfl
            rotate_left
            · simp only [Act.put, List.setIfInBounds_toArray, List.set_cons_zero, List.set_cons_succ, i64_w, i32_w]
              rfl
            refine done_ (by kernel_rfl) ?_
            go_wp2
            refine bodyPost_ret (results_list (rs := [.cell 4 24, .cell 5 29, .tmp 6]) rfl (by simp) (.cell (B + 1) 24 #[.int .i64 vv, .slice Y' nl d'] (0, 0) _ rfl (blk_two (blk_put (blk_put HV4'.out 0 _ rfl) 1 _ rfl) (show B + 1 ≠ B + 1 + 1 by omega) _ _) Try.underlying24 rfl (by kernel_rfl) (.cell (B + 1 + 1) 29 #[.int .i64 v, .slice G' gl cg'] (0, 0) _ rfl (blk_put (blk_put (blk_two HV5'.out (show B + 1 + 1 ≠ B + 1 by omega) _ _) 0 _ rfl) 1 _ rfl) Try.underlying29 rfl (by kernel_rfl) (.tmp .nil)))) rfl ?_
            have hSY := S_two (S_two HSY6.out (g := B + 1) (fun k hk => by have := HDS.out; omega) (.int .i64 vv) (.slice Y' nl d')) (g := B + 1 + 1) (fun k hk => by have := HDS.out; omega) (.int .i64 v) (.slice G' gl cg')
            have hSG := S_two (S_two HSG6.out (g := B + 1) (fun k hk => by omega) (.int .i64 vv) (.slice Y' nl d')) (g := B + 1 + 1) (fun k hk => by omega) (.int .i64 v) (.slice G' gl cg')
            refine ⟨?_, vv, Y', nl, d', v, G', gl, cg', 0, tidyv nx, gonev ts v, rfl, hd', hcg', HNL.out, HGL.out, ?_, ?_, ?_⟩
            · have h0 := HBQ.out
              have h1 := (((HB6.out.setCell (p := ⟨B + 1, 0, none⟩) (by show w.heap.size ≤ B + 1; omega) (.int .i64 vv)).setCell (p := ⟨B + 1, 1, none⟩) (by show w.heap.size ≤ B + 1; omega) (.slice Y' nl d')).setCell (p := ⟨B + 1 + 1, 0, none⟩) (by show w.heap.size ≤ B + 1 + 1; omega) (.int .i64 v)).setCell (p := ⟨B + 1 + 1, 1, none⟩) (by show w.heap.size ≤ B + 1 + 1; omega) (.slice G' gl cg')
              exact h1
            · have h1 := (Kd.S_reads' hSY).2.2
              rw [← HNL.out] at h1
              exact h1
            · have h1 := (Kd.S_reads' hSG).2.2
              rw [← HGL.out] at h1
              exact h1
            · unfold outAns
              rw [if_neg (fun h => h HE0.out), if_neg (by omega), HO.out]
              exact if_pos (by have := HNL.out; have := HBIG.out; omega)
          · have hbd : decide ((nl : Int) ≤ 524288) = false := decide_eq_false (by omega)
            have HQ : Aside0 (∀ (Q : Nat → Prop) (W : World) (X : Option Addr) (cx : Nat), Kd.F kClause W Q X mt ts → mt ≤ cx → Calls Try.prog 25 #[.slice X mt cx, .int .i64 v] W fun e w' => ∃ Y d G cg, e = .returned (.tuple #[.slice Y nl d, .agg #[.int .i64 v, .slice G gl cg], .bool false]) ∧ nl ≤ d ∧ Kd.C kClause w' Y nl (tidyv nx) ∧ gl ≤ cg ∧ Kd.C kClause w' G gl (gonev ts v) ∧ Below W.heap.size W w') := ⟨fun Q W X cx hF hcx => by
              refine (HOC.out Q W X cx HE0.out hv3 hv4 hF hcx).mono ?_
              rintro e w' (⟨h, _⟩ | ⟨nx', Y, d, G, cg, h, rfl, h1, h2, h3, h4, hB⟩)
              · rw [hout] at h; cases h
              · obtain rfl : nx = nx' := Option.some.inj (hout.symm.trans h)
                rw [← hnl] at h1 h2 ⊢
                rw [← hgl] at h3 h4 ⊢
                exact ⟨Y, d, G, cg, by rw [hbd], h1, h2, h3, h4, hB⟩⟩
            clear hout hnl hgl hbd
            go_wp2_with (first | (go_at_call 24; rw [← HW0.out]; refine (HCK.out _ HBW.out).mono ?_; rintro e w1 ⟨X, cx, rfl, hcx, hF, hb⟩; rw [← HBQ.out]; have HFX := Aside0.mk hF; have HX2 := Aside0.mk (blk_below HK2.out hb); have HX4 := Aside0.mk (blk_below HK4.out hb); have HX5 := Aside0.mk (blk_below HK5.out hb); have HB1 := Aside0.mk (HBW.out.trans (hb.mono (by have := HSZ.out; omega))); have HS1 := Aside0.mk (show w.heap.size + 3 ≤ w1.heap.size by have := HSZ.out; have := hb.size; omega); clear hF hb; rw [← HBQ.out] at HX2 HX4 HX5 HB1 HS1; have hy0 := blk_cell HX2.out 0; have hc0 := blk_cell HX4.out 0; have hc1 := blk_cell HX4.out 1; have hc2 := blk_cell HX5.out 0; have hc3 := blk_cell HX5.out 1; have hf0 := blk_frozen HX4.out 0; have hf1 := blk_frozen HX4.out 1; have hf2 := blk_frozen HX5.out 0; have hf3 := blk_frozen HX5.out 1) | (go_at_call 25; refine (HQ.out _ _ _ _ HFX.out hcx).mono ?_; rintro e w2 ⟨Y, d, G, cg, rfl, hd, hCY, hcg, hCG, hb2⟩; clear hc0 hc1 hc2 hc3 hf0 hf1 hf2 hf3; have hD : B + 3 ≤ w2.heap.size := (by have := HS1.out; have := hb2.size; omega); have hz : (w2.alloc (.cells #[(.int .i64 v), (.slice G gl cg)] 29)).heap[w2.heap.size]? = some (.cells #[(.int .i64 v), (.slice G gl cg)] 29 (0, 0)) := heap_alloc_new w2 _; have hz0 := blk_cell hz 0; have hz1 := blk_cell hz 1; have hzf0 := blk_frozen hz 0; have hzf1 := blk_frozen hz 1; have HY2 := Aside0.mk (blk_alloc (blk_below HX2.out hb2) (.cells #[(.int .i64 v), (.slice G gl cg)] 29)); have HY4 := Aside0.mk (blk_alloc (blk_below HX4.out hb2) (.cells #[(.int .i64 v), (.slice G gl cg)] 29)); have HY5 := Aside0.mk (blk_alloc (blk_below HX5.out hb2) (.cells #[(.int .i64 v), (.slice G gl cg)] 29)); have HB3 := Aside0.mk (show Below B w (w2.alloc (.cells #[(.int .i64 v), (.slice G gl cg)] 29)) by rw [HBQ.out]; exact below_alloc ((by rw [← HBQ.out]; exact HB1.out : Below w.heap.size w w1).trans (hb2.mono (by have := HS1.out; have := HBQ.out; omega))) _); have HZ := Aside0.mk hz; clear hb2 hz hy0 hCY hCG; have hc0 := blk_cell HY4.out 0; have hc1 := blk_cell HY4.out 1; have hc2 := blk_cell HY5.out 0; have hc3 := blk_cell HY5.out 1; have hf0 := blk_frozen HY4.out 0; have hf1 := blk_frozen HY4.out 1; have hf2 := blk_frozen HY5.out 0; have hf3 := blk_frozen HY5.out 1))
            refine bodyPost_ret (results_list (rs := [.cell 4 24, .cell 5 29, .tmp 6]) rfl (by simp) (.cell (B + 1) 24 #[.int .i64 0, .slice none 0 0] (0, 0) _ rfl ((Below.heap_setCell _ ⟨B + 1 + 1, 1, none⟩ _ (B + 1) (by show B + 1 ≠ B + 1 + 1; omega)).trans ((Below.heap_setCell _ ⟨B + 1 + 1, 0, none⟩ _ (B + 1) (by show B + 1 ≠ B + 1 + 1; omega)).trans (blk_put (blk_put HY4.out 0 _ rfl) 1 _ rfl))) Try.underlying24 rfl (by kernel_rfl) (.cell (B + 1 + 1) 29 #[.int .i64 0, .slice none 0 0] (0, 0) _ rfl (blk_put (blk_put ((Below.heap_setCell _ ⟨B + 1, 1, none⟩ _ (B + 1 + 1) (by show B + 1 + 1 ≠ B + 1; omega)).trans ((Below.heap_setCell _ ⟨B + 1, 0, none⟩ _ (B + 1 + 1) (by show B + 1 + 1 ≠ B + 1; omega)).trans HY5.out)) 0 _ rfl) 1 _ rfl) Try.underlying29 rfl (by kernel_rfl) (.tmp .nil)))) rfl ?_
            refine top_zero ?_ ?_
            · rw [← HBQ.out]
              exact (((HB3.out.setCell (p := ⟨B + 1, 0, none⟩) (Nat.le_succ B) _).setCell (p := ⟨B + 1, 1, none⟩) (Nat.le_succ B) _).setCell (p := ⟨B + 1 + 1, 0, none⟩) (by show B ≤ B + 1 + 1; omega) _).setCell (p := ⟨B + 1 + 1, 1, none⟩) (by show B ≤ B + 1 + 1; omega) _
            · unfold outAns; rw [if_neg (fun h => h HE0.out), if_neg (by omega), HO.out]; exact if_neg (by have := HNL.out; omega)
  · have hb1 : (e0 != 0) = true := bne_iff_ne.2 he0
    have hb0 : (e0 == 0) = false := beq_eq_false_iff_ne.2 he0
    have HE0 := Aside0.mk he0
    clear he0
    go_wp2_with (go_at_call 24; rw [← HW0.out]; refine (HCK.out _ HBW.out).mono ?_; rintro e w1 ⟨X, cx, rfl, hcx, hF, hb⟩; rw [← HBQ.out]; have HFX := Aside0.mk hF; have HX2 := Aside0.mk (blk_below HK2.out hb); have HX4 := Aside0.mk (blk_below HK4.out hb); have HX5 := Aside0.mk (blk_below HK5.out hb); have HB1 := Aside0.mk (HBW.out.trans (hb.mono (by have := HSZ.out; omega))); have HS1 := Aside0.mk (show w.heap.size + 3 ≤ w1.heap.size by have := HSZ.out; have := hb.size; omega); clear hF hb; rw [← HBQ.out] at HX2 HX4 HX5 HB1 HS1; have hy0 := blk_cell HX2.out 0; have hc0 := blk_cell HX4.out 0; have hc1 := blk_cell HX4.out 1; have hc2 := blk_cell HX5.out 0; have hc3 := blk_cell HX5.out 1; have hf0 := blk_frozen HX4.out 0; have hf1 := blk_frozen HX4.out 1; have hf2 := blk_frozen HX5.out 0; have hf3 := blk_frozen HX5.out 1)
    refine bodyPost_ret (results_list (rs := [.cell 4 24, .cell 5 29, .tmp 6]) rfl (by simp) (.cell (B + 1) 24 #[.int .i64 0, .slice none 0 0] (0, 0) _ rfl ((Below.heap_setCell _ ⟨B + 1 + 1, 1, none⟩ _ (B + 1) (by show B + 1 ≠ B + 1 + 1; omega)).trans ((Below.heap_setCell _ ⟨B + 1 + 1, 0, none⟩ _ (B + 1) (by show B + 1 ≠ B + 1 + 1; omega)).trans (blk_put (blk_put HX4.out 0 _ rfl) 1 _ rfl))) Try.underlying24 rfl (by kernel_rfl) (.cell (B + 1 + 1) 29 #[.int .i64 0, .slice none 0 0] (0, 0) _ rfl (blk_put (blk_put ((Below.heap_setCell _ ⟨B + 1, 1, none⟩ _ (B + 1 + 1) (by show B + 1 + 1 ≠ B + 1; omega)).trans ((Below.heap_setCell _ ⟨B + 1, 0, none⟩ _ (B + 1 + 1) (by show B + 1 + 1 ≠ B + 1; omega)).trans HX5.out)) 0 _ rfl) 1 _ rfl) Try.underlying29 rfl (by kernel_rfl) (.tmp .nil)))) rfl ?_
    refine top_zero ?_ ?_
    · rw [← HBQ.out]
      exact (((HB1.out.setCell (p := ⟨B + 1, 0, none⟩) (Nat.le_succ B) _).setCell (p := ⟨B + 1, 1, none⟩) (Nat.le_succ B) _).setCell (p := ⟨B + 1 + 1, 0, none⟩) (by show B ≤ B + 1 + 1; omega) _).setCell (p := ⟨B + 1 + 1, 1, none⟩) (by show B ≤ B + 1 + 1; omega) _
    · unfold outAns; rw [if_pos HE0.out]

end Go.Proofs.Ythhmjfjkbmmcaaa
/- SpoilInts, SpoilCnf: marks into answers; what lies below stays. -/
namespace Go.Proofs.Ythhmjfjkbmmcaaa
open Go.RowKit Go.Proofs.YthhmjfjkbmmcaaaW.PrintWords Go.Proofs.YthhmjfjkbmmcaaaW.PrintLast Go.Proofs.YthhmjfjkbmmcaaaW.PrintMore
set_option linter.unusedVariables false
set_option linter.unusedSimpArgs false

theorem cell_keep {w : World} {a : Addr} {u : Value} {o : Obj} (h : w.cell? a = some u) : (w.alloc o).cell? a = some u := by rw [World.cell?_alloc_lt _ _ _ (World.block_lt_of_cell? w a h)]; exact h
/-- What spoiling leaves: all below B, all blocks but rows of numbers and those of q; rows of numbers stay as long. -/
def Spd (w w' : World) (B : Nat) (q : Nat → Prop) : Prop :=
  Below B w w' ∧ (∀ (k : Nat) (cells : Array Value) (t : TypeId) (f : Nat × Nat), w.heap[k]? = some (.cells cells t f) → t ≠ 3 → ¬ q k → w'.heap[k]? = w.heap[k]?) ∧ (∀ (k : Nat) (cells : Array Value), w.heap[k]? = some (.cells cells 3 (0, 0)) → ∃ cells' : Array Value, w'.heap[k]? = some (.cells cells' 3 (0, 0)) ∧ cells'.size = cells.size)
theorem Spd.refl (w : World) (B : Nat) (q : Nat → Prop) : Spd w w B q := ⟨Below.refl _ _, fun _ _ _ _ _ _ _ => rfl, fun k cells h => ⟨cells, h, rfl⟩⟩
theorem Spd.trans {w w1 w2 : World} {B : Nat} {q : Nat → Prop} (h : Spd w w1 B q) (h' : Spd w1 w2 B q) : Spd w w2 B q := by
  refine ⟨h.1.trans h'.1, fun k cells t f hk ht hq => ?_, fun k cells hk => ?_⟩
  · have h1 := h.2.1 k cells t f hk ht hq
    exact (h'.2.1 k cells t f (h1.trans hk) ht hq).trans h1
  · obtain ⟨c1, h1, e1⟩ := h.2.2 k cells hk
    obtain ⟨c2, h2, e2⟩ := h'.2.2 k c1 h1
    exact ⟨c2, h2, by omega⟩
theorem Spd.mono {w w1 : World} {B : Nat} {q q' : Nat → Prop} (h : Spd w w1 B q) (hq : ∀ k, q k → q' k) : Spd w w1 B q' := ⟨h.1, fun k cells t f hk ht hn => h.2.1 k cells t f hk ht (fun h => hn (hq k h)), h.2.2⟩
theorem Spd.below {w w1 : World} {B : Nat} {q : Nat → Prop} (hB : B ≤ w.heap.size) (h : Below w.heap.size w w1) : Spd w w1 B q :=
  ⟨h.mono hB, fun k cells t f hk _ _ => h.block k (blk_lt hk), fun k cells hk => ⟨cells, (h.block k (blk_lt hk)).trans hk, rfl⟩⟩
theorem heap_set_at {w : World} {g i : Nat} {cells : Array Value} {t : TypeId} {f : Nat × Nat} (u : Value) (h : w.heap[g]? = some (.cells cells t f)) : ∃ cells', (w.setCell ⟨g, i, none⟩ u).heap[g]? = some (.cells cells' t f) ∧ cells'.size = cells.size ∧ (∀ j, j ≠ i → cells'[j]? = cells[j]?) ∧ (i < cells.size → cells'[i]? = some u) := by
  have hlt := blk_lt h
  have h0 : w.heap[g] = .cells cells t f := by rw [Array.getElem?_eq_getElem hlt] at h; exact Option.some.inj h
  refine ⟨cells.setIfInBounds i u, ?_, by simp, fun j hj => ?_, fun hi => ?_⟩
  · simp only [World.setCell]
    rw [Array.getElem?_eq_getElem (by simpa using hlt), Array.getElem_modify_self, h0]
    rfl
  · simp [Array.getElem?_setIfInBounds, Ne.symm hj]
  · simp [Array.getElem?_setIfInBounds, hi]
theorem Spd.setInt {w w1 : World} {B : Nat} {q : Nat → Prop} {g i : Nat} {cells : Array Value} (h : Spd w w1 B q) (hg : B ≤ g) (hb : w1.heap[g]? = some (.cells cells 3 (0, 0))) (u : Value) : Spd w (w1.setCell ⟨g, i, none⟩ u) B q := by
  refine h.trans ⟨(Below.refl _ _).setCell hg u, fun k c t f hk ht hq => ?_, fun k c hk => ?_⟩
  · refine Below.heap_setCell w1 ⟨g, i, none⟩ u k ?_
    rintro rfl
    rw [hk] at hb
    injection hb with hb
    injection hb with _ hb _
    exact ht hb
  · by_cases e : k = g
    · subst e
      obtain ⟨c', h1, h2, _⟩ := heap_set_at (i := i) u hk
      exact ⟨c', h1, h2⟩
    · exact ⟨c, (Below.heap_setCell w1 ⟨g, i, none⟩ u k e).trans hk, rfl⟩
theorem Spd.setOuter {w w1 : World} {B : Nat} {q : Nat → Prop} {g i : Nat} {cells : Array Value} {t : TypeId} (h : Spd w w1 B q) (hg : B ≤ g) (hq : q g) (hb : w1.heap[g]? = some (.cells cells t (0, 0))) (ht : t ≠ 3) (u : Value) : Spd w (w1.setCell ⟨g, i, none⟩ u) B q := by
  refine h.trans ⟨(Below.refl _ _).setCell hg u, fun k c t' f hk ht' hn => ?_, fun k c hk => ?_⟩
  · exact Below.heap_setCell w1 ⟨g, i, none⟩ u k (fun e => hn (e ▸ hq))
  · refine ⟨c, (Below.heap_setCell w1 ⟨g, i, none⟩ u k ?_).trans hk, rfl⟩
    rintro rfl
    rw [hk] at hb
    injection hb with hb
    injection hb with _ hb _
    exact ht hb.symm
theorem OwnBlk.spd {w w1 : World} {B B' : Nat} {q : Nat → Prop} {A : Option Addr} {c : Nat} (h : OwnBlk w B A c) (hs : Spd w w1 B' q) : OwnBlk w1 B A c := by
  rcases h with h | ⟨g, cells, rfl, hg, hh, hc⟩
  · exact .inl h
  · obtain ⟨c', h1, h2⟩ := hs.2.2 g cells hh
    exact .inr ⟨g, c', rfl, hg, h1, by omega⟩

set_option maxHeartbeats 2000000 in
theorem spoilInts_calls (A : Option Addr) (n c : Nat) (m : Int) (B : Nat) (w : World) (h : OwnBlk w B A c) (hn : n ≤ c) (hB : B ≤ w.heap.size) (hc : n ≤ 9223372036854775806) :
    Calls Try.prog 28 #[.slice A n c, .int .i64 m] w fun e w' => e = .returned (.tuple #[]) ∧ Spd w w' B (fun _ => False) := by
  rcases h with ⟨rfl, rfl⟩ | ⟨g, cells, rfl, hg, hh, hcs⟩
  · obtain rfl : n = 0 := by omega
    go_enter Try.func28, Try.ntmps28
    go_wp2
    go_loop [4] (fun v => v = .int .i64 0) (fun v => 0)
    case atStart => rfl
    case round =>
      obtain rfl := hrel
      go_wp2
      go_end0
      exact ⟨rfl, Spd.refl _ _ _⟩
  · have HH := Aside0.mk hh
    clear hh
    go_enter Try.func28, Try.ntmps28
    go_wp2
    go_loopw [4] (fun v wr => ∃ i : Nat, v = .int .i64 (i : Int) ∧ i ≤ n ∧ Aside0 (Spd w wr B (fun _ => False))) (fun v _ => n - (intOf v).toNat)
    case atStart => exact ⟨0, rfl, Nat.zero_le _, ⟨Spd.refl _ _ _⟩⟩
    case round =>
      obtain ⟨i, rfl, hi, HS⟩ := hrel
      obtain ⟨c1, hb1, hs1⟩ := HS.out.2.2 g cells HH.out
      have HB1 := Aside0.mk hb1
      by_cases hlt : i < n
      · obtain ⟨old, hx⟩ : ∃ old, wr.cell? ⟨g, i, none⟩ = some old := ⟨c1[i]'(by omega), by rw [blk_cell hb1 i]; simp [show i < c1.size by omega]⟩
        have hf := blk_frozen hb1 i
        have hd : decide (i < n) = true := decide_eq_true hlt
        have hd1 : decide ((i : Int) < (n : Int)) = true := decide_eq_true (by omega)
        clear hb1 hs1
        go_wp2
        go_roundw
        case rel => exact ⟨i + 1, by go_num, by omega, ⟨HS.out.setInt hg HB1.out _⟩⟩
        case measure => simp [intOf]; omega
      · obtain rfl : i = n := by omega
        have hd : decide (i < i) = false := decide_eq_false (by omega)
        have hd1 : decide ((i : Int) < (i : Int)) = false := decide_eq_false (by omega)
        by_cases hcap : i < c
        · obtain ⟨old, hx⟩ : ∃ old, wr.cell? ⟨g, i, none⟩ = some old := ⟨c1[i]'(by omega), by rw [blk_cell hb1 i]; simp [show i < c1.size by omega]⟩
          have hf := blk_frozen hb1 i
          have hd2 : decide (i < c) = true := decide_eq_true hcap
          have hd3 : decide ((i : Int) < (c : Int)) = true := decide_eq_true (by omega)
          clear hb1 hs1
          go_wp2
          go_end0
          exact ⟨rfl, HS.out.setInt hg HB1.out _⟩
        · have hd2 : decide (i < c) = false := decide_eq_false hcap
          have hd3 : decide ((i : Int) < (c : Int)) = false := decide_eq_false (by omega)
          clear hb1 hs1
          go_wp2
          go_end0
          exact ⟨rfl, HS.out⟩

/-- A row of clauses that may be spoiled. -/
def SpoR (w : World) (B : Nat) (G : Option Addr) (n : Nat) : Prop :=
  n = 0 ∨ ∃ (g : Nat) (cells : Array Value), G = some ⟨g, 0, none⟩ ∧ B ≤ g ∧ w.heap[g]? = some (.cells cells 43 (0, 0)) ∧ n ≤ cells.size ∧ n ≤ 9223372036854775806 ∧ ∀ i, i < n → ∃ (A : Option Addr) (l c : Nat), cells[i]? = some (.slice A l c) ∧ l ≤ c ∧ l ≤ 9223372036854775806 ∧ OwnBlk w B A c
theorem SpoR.spd {w w1 : World} {B B' : Nat} {q : Nat → Prop} {G : Option Addr} {n : Nat} (h : SpoR w B G n) (hs : Spd w w1 B' q) (hq : ∀ ad, G = some ad → ¬ q ad.block) : SpoR w1 B G n := by
  rcases h with h | ⟨g, cells, rfl, hg, hh, hn, hm, hi⟩
  · exact .inl h
  · refine .inr ⟨g, cells, rfl, hg, (hs.2.1 g cells _ _ hh (by decide) (hq _ rfl)).trans hh, hn, hm, fun i h => ?_⟩
    obtain ⟨A, l, c, h1, h2, h3, h4⟩ := hi i h
    exact ⟨A, l, c, h1, h2, h3, h4.spd hs⟩

set_option maxHeartbeats 2000000 in
theorem spoilCnf_calls (v : Int) (G : Option Addr) (n c : Nat) (m : Int) (B : Nat) (w : World) (h : SpoR w B G n) (hB : B ≤ w.heap.size) :
    Calls Try.prog 12 #[.agg #[.int .i64 v, .slice G n c], .int .i64 m] w fun e w' => e = .returned (.tuple #[]) ∧ Spd w w' B (fun k => 0 < n ∧ ∃ ad, G = some ad ∧ k = ad.block) := by
  have HBX : Aside0 (∀ W q, Spd (w.alloc (.cells #[.int .i64 v, .slice G n c] 24)) W B q → ¬ q w.heap.size → W.heap[w.heap.size]? = some (.cells #[.int .i64 v, .slice G n c] 24 (0, 0))) := ⟨fun W q hS hq => (hS.2.1 _ _ _ _ (heap_alloc_new w _) (by decide) hq).trans (heap_alloc_new w _)⟩
  have HSA : Aside0 (∀ q, Spd w (w.alloc (.cells #[.int .i64 v, .slice G n c] 24)) B q) := ⟨fun q => Spd.below hB (below_alloc (Below.refl _ _) _)⟩
  by_cases hn0 : n = 0
  · subst hn0
    go_enter Try.func12, Try.ntmps12
    go_wp2
    have hx := blk_cell (HBX.out _ (fun _ => False) (Spd.refl _ _ _) (fun h => h)) 1
    have hx1 : (w.alloc (.cells #[.int .i64 v, .slice G 0 c] 24)).cell? ⟨w.heap.size, 1, none⟩ = some (.slice G 0 c) := hx
    clear hx
    go_loop [4] (fun v => v = .int .i64 0) (fun v => 0)
    case atStart => rfl
    case round =>
      obtain rfl := hrel
      go_wp2
      go_end0
      exact ⟨rfl, HSA.out _⟩
  · have HP0 := Aside0.mk hn0
    obtain ⟨g, cells, rfl, hg, hh, hn, hm, hi⟩ := h.resolve_left hn0
    clear hn0
    have HH := Aside0.mk hh
    have HI := Aside0.mk hi
    have hlg := blk_lt hh
    have HLG := Aside0.mk hlg
    clear hh hi hlg
    obtain ⟨w0, hw0⟩ : ∃ w0, w0 = w.alloc (.cells #[.int .i64 v, .slice (some ⟨g, 0, none⟩) n c] 24) := ⟨_, rfl⟩
    have HW0 := Aside0.mk hw0
    rw [← hw0] at HBX HSA
    obtain ⟨b, hb⟩ : ∃ b, b = w.heap.size := ⟨_, rfl⟩
    have HBE := Aside0.mk hb
    rw [← hb] at HBX
    have HB0 := Aside0.mk (show B ≤ w0.heap.size by rw [hw0]; exact Nat.le_trans hB (below_alloc (Below.refl w.heap.size w) _).size)
    have HH0 := Aside0.mk (show w0.heap[g]? = some (.cells cells 43 (0, 0)) by rw [hw0]; exact blk_alloc HH.out _)
    have HO0 : Aside0 (∀ A c, OwnBlk w B A c → OwnBlk w0 B A c) := ⟨fun A c h => by rw [hw0]; exact h.below (below_alloc (Below.refl _ _) _)⟩
    clear hw0 hb hB
    go_enter Try.func12, Try.ntmps12
    go_wp2
    rw [← HW0.out, ← HBE.out]
    go_loopw [4] (fun x wr => ∃ i : Nat, x = .int .i64 (i : Int) ∧ i ≤ n ∧ Aside0 (Spd w0 wr B (fun k => k = g)) ∧ Aside0 (∃ cs, wr.heap[g]? = some (.cells cs 43 (0, 0)) ∧ cs.size = cells.size ∧ ∀ j, i ≤ j → cs[j]? = cells[j]?)) (fun x _ => n - (intOf x).toNat)
    case atStart => exact ⟨0, rfl, Nat.zero_le _, ⟨Spd.refl _ _ _⟩, ⟨cells, HH0.out, rfl, fun _ _ => rfl⟩⟩
    case round =>
      obtain ⟨i, rfl, hi, HS, HC⟩ := hrel
      have hbx := HBX.out wr _ HS.out (fun e => by have := HBE.out; have := HLG.out; omega)
      have hx1 : wr.cell? ⟨b, 1, none⟩ = some (.slice (some ⟨g, 0, none⟩) n c) := blk_cell hbx 1
      have HBXr := Aside0.mk hbx
      clear hbx
      by_cases hlt : i < n
      · obtain ⟨cs, hg1, hs1, hj⟩ := HC.out
        obtain ⟨A, l, ca, h1, h2, h3, h4⟩ := HI.out i hlt
        have hxi : wr.cell? ⟨g, i, none⟩ = some (.slice A l ca) := by rw [blk_cell hg1 i, hj i (Nat.le_refl _)]; exact h1
        have HSP := Aside0.mk (spoilInts_calls A l ca m B wr ((HO0.out _ _ h4).spd HS.out) h2 (Nat.le_trans HB0.out (HS.out.1.size)) h3)
        have HG1 := Aside0.mk hg1
        have HJ := Aside0.mk hj
        have HS1 := Aside0.mk hs1
        have hd : decide (i < n) = true := decide_eq_true hlt
        have hd1 : decide ((i : Int) < (n : Int)) = true := decide_eq_true (by omega)
        clear h1 h2 h3 h4 hg1 hs1 hj HC
        go_wp2_with (go_at_call 28; refine HSP.out.mono ?_; rintro e w1 ⟨rfl, hs⟩; have HS2 := Aside0.mk (HS.out.trans (hs.mono (fun k h => h.elim) : Spd wr w1 B (fun k => k = g))); have hbx1 := (hs.2.1 _ _ _ _ HBXr.out (by decide) (fun h => h)).trans HBXr.out; have HG2 := Aside0.mk ((hs.2.1 _ _ _ _ HG1.out (by decide) (fun h => h)).trans HG1.out); have hy1 : w1.cell? ⟨b, 1, none⟩ = some (.slice (some ⟨g, 0, none⟩) n c) := blk_cell hbx1 1; have hy2 := cell_keep (o := .cells #[.int .i64 m] 3) hy1; have hgx := blk_alloc HG2.out (.cells #[.int .i64 m] 3); obtain ⟨old, ho⟩ : ∃ old, (w1.alloc (.cells #[.int .i64 m] 3)).cell? ⟨g, i, none⟩ = some old := ⟨_, by rw [blk_cell hgx i]; exact Array.getElem?_eq_getElem (by have := HS1.out; omega)⟩; have hf := blk_frozen hgx i; have HGX := Aside0.mk hgx; clear hs hbx1 hgx)
        go_roundw
        case rel => exact ⟨i + 1, by go_num, by omega, ⟨(HS2.out.trans (Spd.below (Nat.le_trans HB0.out HS2.out.1.size) (below_alloc (Below.refl _ _) _))).setOuter hg rfl HGX.out (by decide) _⟩, ⟨by
          obtain ⟨c', h1, h2, h3, _⟩ := heap_set_at (i := i) (.slice (some ⟨w1.heap.size, 0, none⟩) 1 1) HGX.out
          exact ⟨c', h1, by have := HS1.out; omega, fun j hj => (h3 j (by omega)).trans (HJ.out j (by omega))⟩⟩⟩
        case measure => simp [intOf]; omega
      · obtain rfl : i = n := by omega
        have hd : decide (i < i) = false := decide_eq_false (by omega)
        have hd1 : decide ((i : Int) < (i : Int)) = false := decide_eq_false (by omega)
        clear HC
        go_wp2
        go_end0
        exact ⟨rfl, (HSA.out _).trans (HS.out.mono (fun k hk => ⟨Nat.pos_of_ne_zero HP0.out, _, rfl, hk⟩))⟩

end Go.Proofs.Ythhmjfjkbmmcaaa
/- Rows of clauses that may be spoiled, out of what the printed contracts tell. -/
namespace Go.Proofs.Ythhmjfjkbmmcaaa
open Go.RowKit Go.Proofs.YthhmjfjkbmmcaaaW.PrintWords Go.Proofs.YthhmjfjkbmmcaaaW.PrintLast Go.Proofs.YthhmjfjkbmmcaaaW.PrintMore
set_option linter.unusedVariables false
set_option linter.unusedSimpArgs false

theorem take_at {inner : List Value} {i : Nat} {v : Value} (h : ((inner.drop (i * 1)).take 1) = [v]) : inner[i]? = some v := by
  rw [Nat.mul_one] at h
  have := congrArg (fun l : List Value => l[0]?) h
  simpa [List.getElem?_take, List.getElem?_drop] using this
theorem own_spo {α : Type} {R : α → List Value → Prop} {w : World} {B : Nat} {v : Value} {ls : List α} (h : OwnRow R 43 1 w B v ls) (hi : ∀ l ∈ ls, ∀ cs, R l cs → ∃ (A : Option Addr) (n c : Nat), cs = [.slice A n c] ∧ n ≤ c ∧ n ≤ 9223372036854775806 ∧ OwnBlk w B A c) (hl : ls.length ≤ 9223372036854775806) :
    ∀ G n c, v = .slice G n c → SpoR w B G n := by
  rintro G n c rfl
  obtain ⟨inner, ho, hr⟩ := h
  rcases ho.2 with ⟨he, h0⟩ | ⟨g, cap, cur, he, hg, hh, h1, h2, h3, h4⟩
  · injection he with e1 e2 e3
    exact .inl e2
  · injection he with e1 e2 e3
    subst e1
    subst e2
    have hs : cur.size = cap * 1 := h3
    refine .inr ⟨g, cur, rfl, hg, hh, by omega, hl, fun i hin => ?_⟩
    have hp : ls[i]? = some ls[i] := List.getElem?_eq_getElem hin
    obtain ⟨A, m, c', hcs, hm, hm2, hO⟩ := hi ls[i] (List.getElem_mem hin) _ (hr.2 i _ hp)
    have hat := take_at hcs
    refine ⟨A, m, c', ?_, hm, hm2, hO⟩
    rw [← h4] at hat
    rw [List.getElem?_take] at hat
    simp only [Nat.mul_one, hin, if_true] at hat
    simpa using hat
theorem S_spo {w : World} {B : Nat} {ok : Nat → Prop} {G : Option Addr} {n c : Nat} {ls : List (List Int)} (h : Kd.S kClause 43 w B ok (.slice G n c) ls) (hl : ls.length ≤ 9223372036854775806) (hs : ∀ l ∈ ls, l.length ≤ 9223372036854775806) : SpoR w B G n := by
  refine own_spo (Kd.S_R h).2 (fun l hm cs hM => ?_) hl G n c rfl
  obtain ⟨v, rfl, hR⟩ := hM
  obtain ⟨A, c', rfl⟩ := Kd.R_slice hR
  obtain ⟨A2, c2, e, h2, h3, h4⟩ := FK_own hR w (fun _ _ _ => rfl)
  injection e with e1 _
  injection e1 with e1 e2 e3
  subst e1
  subst e3
  exact ⟨A, l.length, c', rfl, h2, hs l hm, h4⟩
theorem N_spo {w : World} {B : Nat} {ok : Nat → Prop} {G : Option Addr} {n c : Nat} {ls : List (List Int)} (h : Kd.N (kOwn B) 43 w B ok (.slice G n c) ls) (hl : ls.length ≤ 9223372036854775806) (hs : ∀ l ∈ ls, l.length ≤ 9223372036854775806) : SpoR w B G n := by
  obtain ⟨_, rows, hrl, hR, hf⟩ := h
  refine own_spo hR.2 (fun row hm cs hM => ?_) (by omega) G n c rfl
  obtain ⟨j, hj⟩ := List.getElem?_of_mem hm
  have hjl : j < ls.length := by have := (List.getElem?_eq_some_iff.1 hj).1; omega
  obtain ⟨A, c', hcs, h2, h3, h4⟩ := Kd.FK_now (hf j _ _ (List.getElem?_eq_getElem hjl) hj)
  exact ⟨A, _, c', hM.1.trans hcs, h2, hs _ (List.getElem_mem hjl), h4⟩

end Go.Proofs.Ythhmjfjkbmmcaaa
/- clean.Out, all outcomes. -/
namespace Go.Proofs.Ythhmjfjkbmmcaaa
open Go.RowKit Go.Proofs.YthhmjfjkbmmcaaaW.PrintWords Go.Proofs.YthhmjfjkbmmcaaaW.PrintLast Go.Proofs.YthhmjfjkbmmcaaaW.PrintMore
open GCS
set_option linter.unusedVariables false
set_option linter.unusedSimpArgs false

theorem OwnBlk.lower {w : World} {B B' : Nat} {A : Option Addr} {c : Nat} (h : OwnBlk w B A c) (hb : B' ≤ B) : OwnBlk w B' A c := by
  rcases h with h | ⟨g, cells, h1, h2, h3, h4⟩
  · exact .inl h
  · exact .inr ⟨g, cells, h1, Nat.le_trans hb h2, h3, h4⟩
theorem SpoR.lower {w : World} {B B' : Nat} {G : Option Addr} {n : Nat} (h : SpoR w B G n) (hb : B' ≤ B) : SpoR w B' G n := by
  rcases h with h | ⟨g, cells, h1, h2, h3, h4, h5, h6⟩
  · exact .inl h
  · refine .inr ⟨g, cells, h1, Nat.le_trans hb h2, h3, h4, h5, fun i hi => ?_⟩
    obtain ⟨A, l, c, a1, a2, a3, a4⟩ := h6 i hi
    exact ⟨A, l, c, a1, a2, a3, a4.lower hb⟩

def OutTop (vv : Int) (ts : List (List Int)) (e0 v : Int) (w : World) (e : Ending) (w' : World) : Prop :=
  Below w.heap.size w w' ∧ ∃ a X p d b Y q c g xs ys, e = .returned (.tuple #[.agg #[.int .i64 a, .slice X p d], .agg #[.int .i64 b, .slice Y q c], .int .i64 g]) ∧ p ≤ d ∧ q ≤ c ∧ p = xs.length ∧ q = ys.length ∧ Kd.C kClause w' X p xs ∧ Kd.C kClause w' Y q ys ∧ SpoR w' w.heap.size X p ∧ SpoR w' w.heap.size Y q ∧ (∀ ad ad', X = some ad → Y = some ad' → ad.block ≠ ad'.block) ∧ outAns vv ts e0 v = (a, xs, b, ys, g)

theorem outtop_zero {vv : Int} {ts : List (List Int)} {e0 v g : Int} {w w' : World} (hb : Below w.heap.size w w') (h : outAns vv ts e0 v = (0, [], 0, [], g)) : OutTop vv ts e0 v w (.returned (.tuple #[.agg #[.int .i64 0, .slice none 0 0], .agg #[.int .i64 0, .slice none 0 0], .int .i64 g])) w' :=
  ⟨hb, 0, none, 0, 0, 0, none, 0, 0, g, [], [], rfl, Nat.le_refl _, Nat.le_refl _, rfl, rfl, Kd.F_now (Kd.F_nil kClause w' (fun _ => True)), Kd.F_now (Kd.F_nil kClause w' (fun _ => True)), .inl rfl, .inl rfl, (fun _ _ h => by cases h), h⟩

set_option maxRecDepth 100000 in
set_option maxHeartbeats 8000000 in
/-- The exits without an answer. -/
theorem outTop_bad (vv : Int) (A : Option Addr) (n c : Nat) (ls : List (List Int)) (v : Int) (w : World) (hn : n = ls.length) (hr : Kd.C kClause w A n ls) (hc : n ≤ c)
    (hof : chk vv ls = 0 → 1 ≤ v → v ≤ vv → ∃ k r1 r2 r3, clean_out.f k (tidyv ls) v = some (r1, r2, r3, false) ∧ outAns vv (tidyv ls) 0 v = (0, [], 0, [], 2)) :
    Calls Try.prog 8 #[.agg #[.int .i64 vv, .slice A n c], .int .i64 v] w (OutTop vv (tidyv ls) (chk vv ls) v w) := by
  have HR := Aside0.mk hr
  have HOF := Aside0.mk hof
  have HN := Aside0.mk hn
  obtain ⟨e0, he0q⟩ : ∃ e, e = chk vv ls := ⟨_, rfl⟩
  obtain ⟨ts, hts⟩ : ∃ ts, ts = tidyv ls := ⟨_, rfl⟩
  have HEQ := Aside0.mk he0q
  have HTS := Aside0.mk hts
  obtain ⟨mt, hmt⟩ : ∃ m, m = ts.length := ⟨_, rfl⟩
  have HMT := Aside0.mk hmt
  have HCK : Aside0 (∀ W, Below w.heap.size w W → Calls Try.prog 20 #[.agg #[.int .i64 vv, .slice A n c]] W fun e w' => e = .returned (.int .i64 e0) ∧ Below W.heap.size W w') := ⟨fun W hW => by have := check_calls vv A c ls W (Kd.C_below (by rw [← hn]; exact hr) hW); rw [← hn, ← he0q] at this; exact this⟩
  have HTD : Aside0 (e0 = 0 → ∀ W, Below w.heap.size w W → Calls Try.prog 22 #[.slice A n c] W fun e w' => ∃ X cx, e = .returned (.slice X mt cx) ∧ mt ≤ cx ∧ Kd.F kClause w' (fun k => W.heap.size ≤ k) X mt ts ∧ Below W.heap.size W w') := ⟨fun he W hW => by
    have hck : chk vv ls = 0 := he0q.symm.trans he
    obtain ⟨hv0, hv1, hln, hgood⟩ := chk_good hck
    rw [hn, hmt, hts]
    refine (tidy_calls A c ls W (Kd.C_below (by rw [← hn]; exact hr) hW) hgood (by omega)).mono ?_
    rintro e w' ⟨v, rfl, hV, hB⟩
    obtain ⟨X, cx, rfl, h2, h3⟩ := hV
    exact ⟨X, cx, rfl, h2, h3, hB⟩⟩
  rw [← he0q, ← hts]
  obtain ⟨w0, hw0⟩ : ∃ w0, w0 = ((w.alloc (.cells #[.int .i64 vv, .slice A n c] 24)).alloc (.cells #[.int .i64 0, .slice none 0 0] 24)).alloc (.cells #[.int .i64 0, .slice none 0 0] 29) := ⟨_, rfl⟩
  have HW0 := Aside0.mk hw0
  have hx : w0.heap[w.heap.size]? = some (.cells #[.int .i64 vv, .slice A n c] 24 (0, 0)) := by rw [hw0]; exact blk_alloc (blk_alloc (heap_alloc_new w _) _) _
  have hx0 : (((w.alloc (.cells #[.int .i64 vv, .slice A n c] 24)).alloc (.cells #[.int .i64 0, .slice none 0 0] 24)).alloc (.cells #[.int .i64 0, .slice none 0 0] 29)).cell? ⟨w.heap.size, 0, none⟩ = some (.int .i64 vv) := by rw [← hw0]; exact blk_cell hx 0
  have hx1 : (((w.alloc (.cells #[.int .i64 vv, .slice A n c] 24)).alloc (.cells #[.int .i64 0, .slice none 0 0] 24)).alloc (.cells #[.int .i64 0, .slice none 0 0] 29)).cell? ⟨w.heap.size, 1, none⟩ = some (.slice A n c) := by rw [← hw0]; exact blk_cell hx 1
  have hk4 : w0.heap[w.heap.size + 1]? = some (.cells #[.int .i64 0, .slice none 0 0] 24 (0, 0)) := by
    rw [hw0]
    refine blk_alloc ?_ _
    have := heap_alloc_new (w.alloc (.cells #[.int .i64 vv, .slice A n c] 24)) (.cells #[.int .i64 0, .slice none 0 0] 24)
    simpa using this
  have hk5 : w0.heap[w.heap.size + 1 + 1]? = some (.cells #[.int .i64 0, .slice none 0 0] 29 (0, 0)) := by
    rw [hw0]
    have := heap_alloc_new ((w.alloc (.cells #[.int .i64 vv, .slice A n c] 24)).alloc (.cells #[.int .i64 0, .slice none 0 0] 24)) (.cells #[.int .i64 0, .slice none 0 0] 29)
    simpa using this
  have HK2 := Aside0.mk hx
  have HK4 := Aside0.mk hk4
  have HK5 := Aside0.mk hk5
  have HSZ := Aside0.mk (show w0.heap.size = w.heap.size + 3 by rw [hw0]; simp)
  have HBW := Aside0.mk (show Below w.heap.size w w0 by rw [hw0]; exact below_alloc (below_alloc (below_alloc (Below.refl _ _) _) _) _)
  have HQ : Aside0 (e0 = 0 → 1 ≤ v → v ≤ vv → outAns vv ts 0 v = (0, [], 0, [], 2) ∧ ∃ (r2 : Int) (nl gl : Nat), ∀ (Q : Nat → Prop) (W : World) (X : Option Addr) (cx : Nat), Kd.F kClause W Q X mt ts → mt ≤ cx → Calls Try.prog 21 #[.slice X mt cx, .int .i64 v] W fun e w' => ∃ Y d G cg, e = .returned (.tuple #[.slice Y nl d, .agg #[.int .i64 r2, .slice G gl cg], .bool false]) ∧ Below W.heap.size W w') := ⟨fun he h1 h2 => by
    obtain ⟨k, r1, r2, r3, hk, ha⟩ := HOF.out (he0q.symm.trans he) h1 h2
    refine ⟨by rw [hts]; exact ha, r2, r1.length, r3.length, fun Q W X cx hF hcx => ?_⟩
    rw [hmt, hts] at hF hcx ⊢
    refine (clean_out.calls k Q X cx (tidyv ls) v r1 r2 r3 false W (Kd.V_mk hcx hF) hk).mono ?_
    rintro e w' ⟨v0, v2, rfl, hV, hN, hB⟩
    obtain ⟨A3, c3, rfl, _, _⟩ := hV
    obtain ⟨G, cg, rfl⟩ := Kd.N_slice hN
    exact ⟨A3, c3, G, cg, rfl, hB⟩⟩
  obtain ⟨B, hBq⟩ : ∃ B, B = w.heap.size := ⟨_, rfl⟩
  have HBQ := Aside0.mk hBq
  clear hn hr hof hts he0q hw0 hx hmt hk4 hk5 hBq
  go_enter Try.func8, Try.ntmps8
  by_cases he0 : e0 = 0
  · have hb0 : (e0 == 0) = true := beq_iff_eq.2 he0
    have hb1 : (e0 != 0) = false := bne_eq_false_iff_eq.2 he0
    have HE0 := Aside0.mk he0
    clear he0
    by_cases hv1 : v < 1
    · have hd1 : decide (v < 1) = true := decide_eq_true hv1
      go_wp2_with (go_at_call 20; rw [← HW0.out]; refine (HCK.out _ HBW.out).mono ?_; rintro e w1 ⟨rfl, hb⟩; rw [← HBQ.out]; have HX2 := Aside0.mk (blk_below HK2.out hb); have HX4 := Aside0.mk (blk_below HK4.out hb); have HX5 := Aside0.mk (blk_below HK5.out hb); have HB1 := Aside0.mk (HBW.out.trans (hb.mono (by have := HSZ.out; omega))); have HS1 := Aside0.mk (show w.heap.size + 3 ≤ w1.heap.size by have := HSZ.out; have := hb.size; omega); clear hb; rw [← HBQ.out] at HX2 HX4 HX5 HB1 HS1; have hy0 := blk_cell HX2.out 0; have hy1 := blk_cell HX2.out 1; have hc0 := blk_cell HX4.out 0; have hc1 := blk_cell HX4.out 1; have hc2 := blk_cell HX5.out 0; have hc3 := blk_cell HX5.out 1; have hf0 := blk_frozen HX4.out 0; have hf1 := blk_frozen HX4.out 1; have hf2 := blk_frozen HX5.out 0; have hf3 := blk_frozen HX5.out 1)
      refine bodyPost_ret (results_list (rs := [.cell 4 24, .cell 5 29, .tmp 6]) rfl (by simp) (.cell (B + 1) 24 #[.int .i64 0, .slice none 0 0] (0, 0) _ rfl ((Below.heap_setCell _ ⟨B + 1 + 1, 1, none⟩ _ (B + 1) (by show B + 1 ≠ B + 1 + 1; omega)).trans ((Below.heap_setCell _ ⟨B + 1 + 1, 0, none⟩ _ (B + 1) (by show B + 1 ≠ B + 1 + 1; omega)).trans (blk_put (blk_put HX4.out 0 _ rfl) 1 _ rfl))) Try.underlying24 rfl (by kernel_rfl) (.cell (B + 1 + 1) 29 #[.int .i64 0, .slice none 0 0] (0, 0) _ rfl (blk_put (blk_put ((Below.heap_setCell _ ⟨B + 1, 1, none⟩ _ (B + 1 + 1) (by show B + 1 + 1 ≠ B + 1; omega)).trans ((Below.heap_setCell _ ⟨B + 1, 0, none⟩ _ (B + 1 + 1) (by show B + 1 + 1 ≠ B + 1; omega)).trans HX5.out)) 0 _ rfl) 1 _ rfl) Try.underlying29 rfl (by kernel_rfl) (.tmp .nil)))) rfl ?_
      refine outtop_zero ?_ ?_
      · rw [← HBQ.out]
        exact (((HB1.out.setCell (p := ⟨B + 1, 0, none⟩) (Nat.le_succ B) _).setCell (p := ⟨B + 1, 1, none⟩) (Nat.le_succ B) _).setCell (p := ⟨B + 1 + 1, 0, none⟩) (by show B ≤ B + 1 + 1; omega) _).setCell (p := ⟨B + 1 + 1, 1, none⟩) (by show B ≤ B + 1 + 1; omega) _
      · unfold outAns; rw [if_neg (fun h => h HE0.out), if_pos (by omega)]
    · have hd1 : decide (v < 1) = false := decide_eq_false hv1
      by_cases hv2 : vv < v
      · have hd2 : decide (vv < v) = true := decide_eq_true hv2
        have hd3 : decide (v > vv) = true := decide_eq_true hv2
        go_wp2_with (go_at_call 20; rw [← HW0.out]; refine (HCK.out _ HBW.out).mono ?_; rintro e w1 ⟨rfl, hb⟩; rw [← HBQ.out]; have HX2 := Aside0.mk (blk_below HK2.out hb); have HX4 := Aside0.mk (blk_below HK4.out hb); have HX5 := Aside0.mk (blk_below HK5.out hb); have HB1 := Aside0.mk (HBW.out.trans (hb.mono (by have := HSZ.out; omega))); have HS1 := Aside0.mk (show w.heap.size + 3 ≤ w1.heap.size by have := HSZ.out; have := hb.size; omega); clear hb; rw [← HBQ.out] at HX2 HX4 HX5 HB1 HS1; have hy0 := blk_cell HX2.out 0; have hy1 := blk_cell HX2.out 1; have hc0 := blk_cell HX4.out 0; have hc1 := blk_cell HX4.out 1; have hc2 := blk_cell HX5.out 0; have hc3 := blk_cell HX5.out 1; have hf0 := blk_frozen HX4.out 0; have hf1 := blk_frozen HX4.out 1; have hf2 := blk_frozen HX5.out 0; have hf3 := blk_frozen HX5.out 1)
        refine bodyPost_ret (results_list (rs := [.cell 4 24, .cell 5 29, .tmp 6]) rfl (by simp) (.cell (B + 1) 24 #[.int .i64 0, .slice none 0 0] (0, 0) _ rfl ((Below.heap_setCell _ ⟨B + 1 + 1, 1, none⟩ _ (B + 1) (by show B + 1 ≠ B + 1 + 1; omega)).trans ((Below.heap_setCell _ ⟨B + 1 + 1, 0, none⟩ _ (B + 1) (by show B + 1 ≠ B + 1 + 1; omega)).trans (blk_put (blk_put HX4.out 0 _ rfl) 1 _ rfl))) Try.underlying24 rfl (by kernel_rfl) (.cell (B + 1 + 1) 29 #[.int .i64 0, .slice none 0 0] (0, 0) _ rfl (blk_put (blk_put ((Below.heap_setCell _ ⟨B + 1, 1, none⟩ _ (B + 1 + 1) (by show B + 1 + 1 ≠ B + 1; omega)).trans ((Below.heap_setCell _ ⟨B + 1, 0, none⟩ _ (B + 1 + 1) (by show B + 1 + 1 ≠ B + 1; omega)).trans HX5.out)) 0 _ rfl) 1 _ rfl) Try.underlying29 rfl (by kernel_rfl) (.tmp .nil)))) rfl ?_
        refine outtop_zero ?_ ?_
        · rw [← HBQ.out]
          exact (((HB1.out.setCell (p := ⟨B + 1, 0, none⟩) (Nat.le_succ B) _).setCell (p := ⟨B + 1, 1, none⟩) (Nat.le_succ B) _).setCell (p := ⟨B + 1 + 1, 0, none⟩) (by show B ≤ B + 1 + 1; omega) _).setCell (p := ⟨B + 1 + 1, 1, none⟩) (by show B ≤ B + 1 + 1; omega) _
        · unfold outAns; rw [if_neg (fun h => h HE0.out), if_pos (by omega)]
      · have hd2 : decide (vv < v) = false := decide_eq_false hv2
        have hd3 : decide (v > vv) = false := decide_eq_false hv2
        obtain ⟨ha, r2, nl, gl, hq⟩ := HQ.out HE0.out (by omega) (by omega)
        have HA := Aside0.mk ha
        have HQ3 := Aside0.mk hq
        clear ha hq
        go_wp2_with (first | (go_at_call 20; rw [← HW0.out]; refine (HCK.out _ HBW.out).mono ?_; rintro e w1 ⟨rfl, hb⟩; rw [← HBQ.out]; have HX2 := Aside0.mk (blk_below HK2.out hb); have HX4 := Aside0.mk (blk_below HK4.out hb); have HX5 := Aside0.mk (blk_below HK5.out hb); have HB1 := Aside0.mk (HBW.out.trans (hb.mono (by have := HSZ.out; omega))); have HS1 := Aside0.mk (show w.heap.size + 3 ≤ w1.heap.size by have := HSZ.out; have := hb.size; omega); clear hb; rw [← HBQ.out] at HX2 HX4 HX5 HB1 HS1; have hy0 := blk_cell HX2.out 0; have hy1 := blk_cell HX2.out 1; have hc0 := blk_cell HX4.out 0; have hc1 := blk_cell HX4.out 1; have hc2 := blk_cell HX5.out 0; have hc3 := blk_cell HX5.out 1; have hf0 := blk_frozen HX4.out 0; have hf1 := blk_frozen HX4.out 1; have hf2 := blk_frozen HX5.out 0; have hf3 := blk_frozen HX5.out 1) | (go_at_call 22; refine (HTD.out HE0.out _ (by rw [← HBQ.out]; exact HB1.out)).mono ?_; rintro e w1b ⟨X, cx, rfl, hcx, hF, hb⟩; clear hc0 hc1 hc2 hc3 hf0 hf1 hf2 hf3 hy0 hy1; have HFX := Aside0.mk hF; have HX2b := Aside0.mk (blk_below HX2.out hb); have HX4b := Aside0.mk (blk_below HX4.out hb); have HX5b := Aside0.mk (blk_below HX5.out hb); have HB1b := Aside0.mk (HB1.out.trans (hb.mono (by have := HS1.out; omega))); have HS1b := Aside0.mk (show B + 3 ≤ w1b.heap.size by have := HS1.out; have := hb.size; omega); clear hb hF) | (go_at_call 21; refine (HQ3.out _ _ _ _ HFX.out hcx).mono ?_; rintro e w2 ⟨Y, d, G, cg, rfl, hb2⟩; have hD : B + 3 ≤ w2.heap.size := (by have := HS1b.out; have := hb2.size; omega); have hz : (w2.alloc (.cells #[(.int .i64 r2), (.slice G gl cg)] 29)).heap[w2.heap.size]? = some (.cells #[(.int .i64 r2), (.slice G gl cg)] 29 (0, 0)) := heap_alloc_new w2 _; have hz0 := blk_cell hz 0; have hz1 := blk_cell hz 1; have hzf0 := blk_frozen hz 0; have hzf1 := blk_frozen hz 1; have HY2 := Aside0.mk (blk_alloc (blk_below HX2b.out hb2) (.cells #[(.int .i64 r2), (.slice G gl cg)] 29)); have HY4 := Aside0.mk (blk_alloc (blk_below HX4b.out hb2) (.cells #[(.int .i64 r2), (.slice G gl cg)] 29)); have HY5 := Aside0.mk (blk_alloc (blk_below HX5b.out hb2) (.cells #[(.int .i64 r2), (.slice G gl cg)] 29)); have HB3 := Aside0.mk (show Below B w (w2.alloc (.cells #[(.int .i64 r2), (.slice G gl cg)] 29)) by rw [HBQ.out]; exact below_alloc ((by rw [← HBQ.out]; exact HB1b.out : Below w.heap.size w w1b).trans (hb2.mono (by have := HS1b.out; have := HBQ.out; omega))) _); have HZ := Aside0.mk hz; clear hb2 hz; have hc0 := blk_cell HY4.out 0; have hc1 := blk_cell HY4.out 1; have hc2 := blk_cell HY5.out 0; have hc3 := blk_cell HY5.out 1; have hf0 := blk_frozen HY4.out 0; have hf1 := blk_frozen HY4.out 1; have hf2 := blk_frozen HY5.out 0; have hf3 := blk_frozen HY5.out 1))
        refine bodyPost_ret (results_list (rs := [.cell 4 24, .cell 5 29, .tmp 6]) rfl (by simp) (.cell (B + 1) 24 #[.int .i64 0, .slice none 0 0] (0, 0) _ rfl ((Below.heap_setCell _ ⟨B + 1 + 1, 1, none⟩ _ (B + 1) (by show B + 1 ≠ B + 1 + 1; omega)).trans ((Below.heap_setCell _ ⟨B + 1 + 1, 0, none⟩ _ (B + 1) (by show B + 1 ≠ B + 1 + 1; omega)).trans (blk_put (blk_put HY4.out 0 _ rfl) 1 _ rfl))) Try.underlying24 rfl (by kernel_rfl) (.cell (B + 1 + 1) 29 #[.int .i64 0, .slice none 0 0] (0, 0) _ rfl (blk_put (blk_put ((Below.heap_setCell _ ⟨B + 1, 1, none⟩ _ (B + 1 + 1) (by show B + 1 + 1 ≠ B + 1; omega)).trans ((Below.heap_setCell _ ⟨B + 1, 0, none⟩ _ (B + 1 + 1) (by show B + 1 + 1 ≠ B + 1; omega)).trans HY5.out)) 0 _ rfl) 1 _ rfl) Try.underlying29 rfl (by kernel_rfl) (.tmp .nil)))) rfl ?_
        refine outtop_zero ?_ ?_
        · rw [← HBQ.out]
          exact (((HB3.out.setCell (p := ⟨B + 1, 0, none⟩) (Nat.le_succ B) _).setCell (p := ⟨B + 1, 1, none⟩) (Nat.le_succ B) _).setCell (p := ⟨B + 1 + 1, 0, none⟩) (by show B ≤ B + 1 + 1; omega) _).setCell (p := ⟨B + 1 + 1, 1, none⟩) (by show B ≤ B + 1 + 1; omega) _
        · rw [HE0.out]; exact HA.out
  · have hb1 : (e0 != 0) = true := bne_iff_ne.2 he0
    have hb0 : (e0 == 0) = false := beq_eq_false_iff_ne.2 he0
    have HE0 := Aside0.mk he0
    clear he0
    go_wp2_with (go_at_call 20; rw [← HW0.out]; refine (HCK.out _ HBW.out).mono ?_; rintro e w1 ⟨rfl, hb⟩; rw [← HBQ.out]; have HX2 := Aside0.mk (blk_below HK2.out hb); have HX4 := Aside0.mk (blk_below HK4.out hb); have HX5 := Aside0.mk (blk_below HK5.out hb); have HB1 := Aside0.mk (HBW.out.trans (hb.mono (by have := HSZ.out; omega))); have HS1 := Aside0.mk (show w.heap.size + 3 ≤ w1.heap.size by have := HSZ.out; have := hb.size; omega); clear hb; rw [← HBQ.out] at HX2 HX4 HX5 HB1 HS1; have hy0 := blk_cell HX2.out 0; have hy1 := blk_cell HX2.out 1; have hc0 := blk_cell HX4.out 0; have hc1 := blk_cell HX4.out 1; have hc2 := blk_cell HX5.out 0; have hc3 := blk_cell HX5.out 1; have hf0 := blk_frozen HX4.out 0; have hf1 := blk_frozen HX4.out 1; have hf2 := blk_frozen HX5.out 0; have hf3 := blk_frozen HX5.out 1)
    refine bodyPost_ret (results_list (rs := [.cell 4 24, .cell 5 29, .tmp 6]) rfl (by simp) (.cell (B + 1) 24 #[.int .i64 0, .slice none 0 0] (0, 0) _ rfl ((Below.heap_setCell _ ⟨B + 1 + 1, 1, none⟩ _ (B + 1) (by show B + 1 ≠ B + 1 + 1; omega)).trans ((Below.heap_setCell _ ⟨B + 1 + 1, 0, none⟩ _ (B + 1) (by show B + 1 ≠ B + 1 + 1; omega)).trans (blk_put (blk_put HX4.out 0 _ rfl) 1 _ rfl))) Try.underlying24 rfl (by kernel_rfl) (.cell (B + 1 + 1) 29 #[.int .i64 0, .slice none 0 0] (0, 0) _ rfl (blk_put (blk_put ((Below.heap_setCell _ ⟨B + 1, 1, none⟩ _ (B + 1 + 1) (by show B + 1 + 1 ≠ B + 1; omega)).trans ((Below.heap_setCell _ ⟨B + 1, 0, none⟩ _ (B + 1 + 1) (by show B + 1 + 1 ≠ B + 1; omega)).trans HX5.out)) 0 _ rfl) 1 _ rfl) Try.underlying29 rfl (by kernel_rfl) (.tmp .nil)))) rfl ?_
    refine outtop_zero ?_ ?_
    · rw [← HBQ.out]
      exact (((HB1.out.setCell (p := ⟨B + 1, 0, none⟩) (Nat.le_succ B) _).setCell (p := ⟨B + 1, 1, none⟩) (Nat.le_succ B) _).setCell (p := ⟨B + 1 + 1, 0, none⟩) (by show B ≤ B + 1 + 1; omega) _).setCell (p := ⟨B + 1 + 1, 1, none⟩) (by show B ≤ B + 1 + 1; omega) _
    · unfold outAns; rw [if_pos HE0.out]

theorem outTop_calls (vv : Int) (A : Option Addr) (n c : Nat) (ls : List (List Int)) (v : Int) (w : World) (hn : n = ls.length) (hr : Kd.C kClause w A n ls) (hc : n ≤ c)
    (hof : chk vv ls = 0 → 1 ≤ v → v ≤ vv → (∃ k r1 r2 r3, clean_out.f k (tidyv ls) v = some (r1, r2, r3, false) ∧ outAns vv (tidyv ls) 0 v = (0, [], 0, [], 2)) ∨ ∃ k r1 r2 r3, clean_out.f k (tidyv ls) v = some (r1, r2, r3, true) ∧ outAns vv (tidyv ls) 0 v = (vv, r1, r2, r3, 0) ∧ r1.length ≤ 4398046511104 ∧ (∀ l ∈ r1, l.length ≤ 1099511627776) ∧ r3.length ≤ 4398046511104 ∧ (∀ l ∈ r3, l.length ≤ 1099511627776)) :
    Calls Try.prog 8 #[.agg #[.int .i64 vv, .slice A n c], .int .i64 v] w (OutTop vv (tidyv ls) (chk vv ls) v w) := by
  by_cases hyes : chk vv ls = 0 ∧ 1 ≤ v ∧ v ≤ vv
  · obtain ⟨h0, h1, h2⟩ := hyes
    rcases hof h0 h1 h2 with hf | ⟨k, r1, r2, r3, hk, ha, b1, b2, b3, b4⟩
    · exact outTop_bad vv A n c ls v w hn hr hc fun _ _ _ => hf
    · subst hn
      refine (out_full k vv v A c ls r1 r3 r2 w hr hc h0 h1 h2 hk b1 b2).mono ?_
      rintro e w' ⟨v1, G, cg, rfl, hS, ⟨Wb, hWb, hN⟩, hd, hB⟩
      obtain ⟨X, d, rfl⟩ := Kd.S_slice hS
      have hSC := Kd.S_reads' hS
      have hNC := Kd.N_reads' hN
      refine ⟨hB, vv, X, r1.length, d, r2, G, r3.length, cg, 0, r1, r3, rfl, hSC.2.1, hNC.2.1, rfl, rfl, hSC.2.2, kOwn_C hNC.2.2, S_spo hS (by omega) (fun l hl => by have := b2 l hl; omega), (N_spo hN (by omega) (fun l hl => by have := b4 l hl; omega)).lower hWb, ?_, by rw [h0]; exact ha⟩
      rintro ad ad' rfl hG
      exact hd ad.block rfl ad' hG
  · exact outTop_bad vv A n c ls v w hn hr hc fun h0 h1 h2 => absurd ⟨h0, h1, h2⟩ hyes

end Go.Proofs.Ythhmjfjkbmmcaaa
/- The fixed whole: works. -/
namespace Go.Proofs.Ythhmjfjkbmmcaaa
open Go.RowKit Go.Proofs.YthhmjfjkbmmcaaaW.PrintWords Go.Proofs.YthhmjfjkbmmcaaaW.PrintLast Go.Proofs.YthhmjfjkbmmcaaaW.PrintMore
open GCS
set_option linter.unusedVariables false
set_option linter.unusedSimpArgs false

theorem srt2 {a b : Int} (h : ltB b a = false) : srt [a, b] = [a, b] := by
  unfold srt
  simp [List.mergeSort, List.MergeSort.Internal.splitInTwo, List.merge, h]
theorem nrm12 : nrm [1, 2] = ([1, 2], true) := by
  unfold nrm
  rw [srt2 (by decide)]
  decide
theorem nrm13 : nrm [-1, 3] = ([-1, 3], true) := by
  unfold nrm
  rw [srt2 (by decide)]
  decide
theorem nrm23 : nrm [2, 3] = ([2, 3], true) := by
  unfold nrm
  rw [srt2 (by decide)]
  decide
theorem tidy0 : tidyv [[1, 2], [-1, 3], [2, 3]] = [[1, 2], [-1, 3], [2, 3]] := by
  simp [tidyv, tidyStep, nrm12, nrm13, nrm23]
theorem res0 : resv [1, 2] [-1, 3] 1 = ([2, 3], 0) := by
  have hp : pairv [1, 2] [-1, 3] = ([1, 2], [-1, 3], 0) := by simp [pairv, nrm12, nrm13]
  unfold resv
  rw [hp]
  have h1 : dropv [1, 2] 1 = [2] := by decide
  have h2 : dropv [-1, 3] (-1) = [3] := by decide
  have h3 : bsHas [1, 2] 1 = true := by decide
  have h4 : bsHas [-1, 3] (-1) = true := by decide
  simp only [h1, h2, h3, h4]
  simp [nrm23]

theorem tidy1 : clean_tidy.f [[2, 3], [2, 3]] = some [[2, 3]] := by
  unfold clean_tidy.f
  rw [if_pos (by decide)]
  simp [tidyv, tidyStep, nrm23]
theorem resf0 : lits_Resolve.f [1, 2] [-1, 3] 1 = some ([2, 3], 0) := by
  unfold lits_Resolve.f
  rw [if_pos (by decide), res0]
theorem out0 : clean_out.f 10 [[1, 2], [-1, 3], [2, 3]] 1 = some ([[2, 3]], 1, [[1, 2], [-1, 3]], true) := by
  simp (decide := true) [clean_out.f, clean_out.l0, clean_out.l1, clean_out.l2, clean_has.f, has, api_Clause_int.f, rd_L1, resf0, tidy1, wrap64]

theorem chk0 : chk 3 [[1, 2], [-1, 3], [2, 3]] = 0 := by decide
theorem right0 : rightFrom 3 1 [[1, 2], [-1, 3]] = true := by decide
theorem needs0 : needsv 1 [true, true, false] [[1, 2], [-1, 3]] = false := by decide

/-- Three rows of numbers in line. -/
theorem C_ints2 {w : World} {g : Nat} {a b : Int} {t : TypeId} (h : w.heap[g]? = some (.cells #[.int .i64 a, .int .i64 b] t (0, 0))) : (Kd.int .i64).C w (some ⟨g, 0, none⟩) 2 [a, b] := by
  refine ⟨rfl, by omega, fun _ => ⟨_, rfl, fun j p hj => ?_⟩⟩
  match j, hj with
  | 0, hj => cases hj; exact ⟨[.int .i64 a], rfl, rfl, fun i u hu => by
      match i, hu with
      | 0, hu => cases hu; exact blk_cell h 0⟩
  | 1, hj => cases hj; exact ⟨[.int .i64 b], rfl, rfl, fun i u hu => by
      match i, hu with
      | 0, hu => cases hu; exact blk_cell h 1⟩

theorem blk_new' (w : World) (o : Obj) (g : Nat) (hg : g = w.heap.size) : (w.alloc o).heap[g]? = some o := by rw [hg]; exact heap_alloc_new w o
theorem C_rows3 {w : World} {g g0 g1 g2 : Nat} {x y z : List Int} {t : TypeId} (h : w.heap[g]? = some (.cells #[.slice (some ⟨g0, 0, none⟩) 2 2, .slice (some ⟨g1, 0, none⟩) 2 2, .slice (some ⟨g2, 0, none⟩) 2 2] t (0, 0))) (h0 : (Kd.int .i64).C w (some ⟨g0, 0, none⟩) 2 x) (h1 : (Kd.int .i64).C w (some ⟨g1, 0, none⟩) 2 y) (h2 : (Kd.int .i64).C w (some ⟨g2, 0, none⟩) 2 z) : Kd.C kClause w (some ⟨g, 0, none⟩) 3 [x, y, z] := by
  refine ⟨rfl, by omega, fun _ => ⟨_, rfl, fun j p hj => ?_⟩⟩
  have e0 := h0.1
  have e1 := h1.1
  have e2 := h2.1
  match j, hj with
  | 0, hj => cases hj; exact ⟨[.slice (some ⟨g0, 0, none⟩) 2 2], rfl, ⟨_, 2, by rw [e0], by omega, by rw [e0]; exact h0⟩, fun i u hu => by
      match i, hu with
      | 0, hu => cases hu; exact blk_cell h 0⟩
  | 1, hj => cases hj; exact ⟨[.slice (some ⟨g1, 0, none⟩) 2 2], rfl, ⟨_, 2, by rw [e1], by omega, by rw [e1]; exact h1⟩, fun i u hu => by
      match i, hu with
      | 0, hu => cases hu; exact blk_cell h 1⟩
  | 2, hj => cases hj; exact ⟨[.slice (some ⟨g2, 0, none⟩) 2 2], rfl, ⟨_, 2, by rw [e2], by omega, by rw [e2]; exact h2⟩, fun i u hu => by
      match i, hu with
      | 0, hu => cases hu; exact blk_cell h 2⟩

theorem C_bools3 {w : World} {g : Nat} {a b c : Bool} {t : TypeId} (h : w.heap[g]? = some (.cells #[.bool a, .bool b, .bool c] t (0, 0))) : Kd.bool.C w (some ⟨g, 0, none⟩) 3 [a, b, c] := by
  refine ⟨rfl, by omega, fun _ => ⟨_, rfl, fun j p hj => ?_⟩⟩
  match j, hj with
  | 0, hj => cases hj; exact ⟨[.bool a], rfl, rfl, fun i u hu => by
      match i, hu with
      | 0, hu => cases hu; exact blk_cell h 0⟩
  | 1, hj => cases hj; exact ⟨[.bool b], rfl, rfl, fun i u hu => by
      match i, hu with
      | 0, hu => cases hu; exact blk_cell h 1⟩
  | 2, hj => cases hj; exact ⟨[.bool c], rfl, rfl, fun i u hu => by
      match i, hu with
      | 0, hu => cases hu; exact blk_cell h 2⟩
theorem inM0 : ∀ c ∈ ([[1, 2], [-1, 3]] : List (List Int)), ∀ x ∈ c, InM [true, true, false] x := by
  intro c hc x hx
  simp only [List.mem_cons, List.not_mem_nil, or_false] at hc
  rcases hc with rfl | rfl <;> simp only [List.mem_cons, List.not_mem_nil, or_false] at hx <;> rcases hx with rfl | rfl <;> (refine ⟨by omega, by omega, by omega, ?_⟩; decide)
theorem back0 (w1 : World) (b : Nat) (G : Option Addr) (cg : Nat) (o1 o2 : Obj) (hf : Kd.C kClause w1 (some ⟨b, 0, none⟩) 3 [[1, 2], [-1, 3], [2, 3]]) (hG : Kd.C kClause w1 G 2 [[1, 2], [-1, 3]]) :
    Calls Try.prog 18 #[.agg #[.int .i64 3, .slice (some ⟨b, 0, none⟩) 3 3], .slice (some ⟨w1.heap.size + 1 + 1, 0, none⟩) 1 1, .slice (some ⟨w1.heap.size + 1 + 1 + 1, 0, none⟩) 3 3] ((((w1.alloc o1).alloc o2).alloc (.cells #[.int .i64 1, .slice G 2 cg] 29)).alloc (.cells #[.bool true, .bool true, .bool false] 4)) fun e w' => ∃ g cap, e = .returned (.tuple #[.slice (some ⟨g, 0, none⟩) 3 cap, .int .i64 0]) ∧ w'.cell? ⟨g, 0, none⟩ = some (.bool false) ∧ w'.cell? ⟨g, 1, none⟩ = some (.bool true) ∧ Below (World.heap ((((w1.alloc o1).alloc o2).alloc (.cells #[.int .i64 1, .slice G 2 cg] 29)).alloc (.cells #[.bool true, .bool true, .bool false] 4))).size ((((w1.alloc o1).alloc o2).alloc (.cells #[.int .i64 1, .slice G 2 cg] 29)).alloc (.cells #[.bool true, .bool true, .bool false] 4)) w' := by
  have hB := below_alloc (below_alloc (below_alloc (below_alloc (Below.refl w1.heap.size w1) o1) o2) (.cells #[.int .i64 1, .slice G 2 cg] 29)) (.cells #[.bool true, .bool true, .bool false] 4)
  have h := back_calls 3 1 (some ⟨b, 0, none⟩) G 3 cg (w1.heap.size + 1 + 1) (w1.heap.size + 1 + 1 + 1) 1 3 [[1, 2], [-1, 3], [2, 3]] [[1, 2], [-1, 3]] [true, true, false] _ (Kd.C_below hf hB) chk0 (blk_alloc (blk_new' _ _ _ (by simp)) _) (Kd.C_below hG hB) (C_bools3 (blk_new' _ _ _ (by simp))) rfl (by omega) (by omega) (by omega) right0 (by simp) (by simp) (by simp) inM0
  refine h.mono ?_
  rintro e w' ⟨v, rfl, ho, hb⟩
  obtain ⟨g, cap, rfl, hgb, _⟩ := ho.form (by simp)
  refine ⟨g, cap, rfl, ?_, ?_, hb⟩
  · have := ho.cells (g := g) rfl 0 (.bool false) (by rw [needs0]; rfl)
    rwa [add_plain] at this
  · have := ho.cells (g := g) rfl 1 (.bool true) (by rw [needs0]; rfl)
    rwa [add_plain] at this

set_option maxRecDepth 100000 in
set_option maxHeartbeats 8000000 in
theorem works_calls (w : World) : Calls Try.prog 6 #[] w fun e w' => e = .returned (.bool true) ∧ Below w.heap.size w w' := by
  obtain ⟨W0, hW0⟩ : ∃ W0, W0 = ((((w.alloc (.cells #[.int .i64 1, .int .i64 2] 3)).alloc (.cells #[.int .i64 (-1), .int .i64 3] 3)).alloc (.cells #[.int .i64 2, .int .i64 3] 3)).alloc (.cells #[.slice (some ⟨w.heap.size, 0, none⟩) 2 2, .slice (some ⟨w.heap.size + 1, 0, none⟩) 2 2, .slice (some ⟨w.heap.size + 1 + 1, 0, none⟩) 2 2] 43)).alloc (.cells #[.int .i64 3, .slice (some ⟨w.heap.size + 1 + 1 + 1, 0, none⟩) 3 3] 24) := ⟨_, rfl⟩
  have hf : Kd.C kClause W0 (some ⟨w.heap.size + 1 + 1 + 1, 0, none⟩) 3 [[1, 2], [-1, 3], [2, 3]] := by
    rw [hW0]
    refine C_rows3 (t := 43) (blk_alloc (blk_new' _ _ _ (by simp)) _) (C_ints2 (t := 3) ?_) (C_ints2 (t := 3) ?_) (C_ints2 (t := 3) ?_)
    · exact blk_alloc (blk_alloc (blk_alloc (blk_alloc (blk_new' _ _ _ rfl) _) _) _) _
    · exact blk_alloc (blk_alloc (blk_alloc (blk_new' _ _ _ (by simp)) _) _) _
    · exact blk_alloc (blk_alloc (blk_new' _ _ _ (by simp)) _) _
  have hbx : W0.heap[w.heap.size + 1 + 1 + 1 + 1]? = some (.cells #[.int .i64 3, .slice (some ⟨w.heap.size + 1 + 1 + 1, 0, none⟩) 3 3] 24 (0, 0)) := by
    rw [hW0]; exact blk_new' _ _ _ (by simp)
  have hB0 : Below w.heap.size w W0 := by rw [hW0]; exact below_alloc (below_alloc (below_alloc (below_alloc (below_alloc (Below.refl _ _) _) _) _) _) _
  have HO := Aside0.mk (out_calls 10 3 1 (some ⟨w.heap.size + 1 + 1 + 1, 0, none⟩) 3 [[1, 2], [-1, 3], [2, 3]] [[2, 3]] [[1, 2], [-1, 3]] 1 W0 hf (by simp) chk0 (by omega) (by omega) (by rw [tidy0]; exact out0) (by simp) (by simp))
  have HF := Aside0.mk hf
  have HB0 := Aside0.mk hB0
  have HBX := Aside0.mk hbx
  have HW := Aside0.mk hW0
  clear hf hbx hB0 hW0
  go_enter Try.func6, Try.ntmps6
  go_wp2_with (first | (go_at_call 8; rw [← HW.out]; refine HO.out.mono ?_; rintro e w1 ⟨v1, G, cg, rfl, hS, hCG, hlg, hb1⟩; obtain ⟨A1, c1, rfl⟩ := Kd.R_slice (Kd.S_R hS); have HB1 := Aside0.mk hb1; have HC1 := Aside0.mk (Kd.R_reads' (Kd.S_R hS)).2.2; have HCG := Aside0.mk hCG; have hfb := blk_below HBX.out hb1; have hf0 := cell_alloc_keep (o := .cells #[.int .i64 1, .slice G 2 cg] 29) (cell_alloc_keep (o := .cells #[.int .i64 3, .slice A1 1 c1] 24) (show w1.cell? ⟨w.heap.size + 1 + 1 + 1 + 1, 0, none⟩ = some (.int .i64 3) from blk_cell hfb 0)); have hf1 := cell_alloc_keep (o := .cells #[.int .i64 1, .slice G 2 cg] 29) (cell_alloc_keep (o := .cells #[.int .i64 3, .slice A1 1 c1] 24) (show w1.cell? ⟨w.heap.size + 1 + 1 + 1 + 1, 1, none⟩ = some (.slice (some ⟨w.heap.size + 1 + 1 + 1, 0, none⟩) 3 3) from blk_cell hfb 1)); have hk3 : ((w1.alloc (.cells #[.int .i64 3, .slice A1 1 c1] 24)).alloc (.cells #[.int .i64 1, .slice G 2 cg] 29)).heap[w1.heap.size + 1]? = some (.cells #[.int .i64 1, .slice G 2 cg] 29 (0, 0)) := heap_new2o _ _ _; have hx0 : ((w1.alloc (.cells #[.int .i64 3, .slice A1 1 c1] 24)).alloc (.cells #[.int .i64 1, .slice G 2 cg] 29)).cell? ⟨w1.heap.size + 1, 0, none⟩ = some (.int .i64 1) := blk_cell hk3 0; have hx1 : ((w1.alloc (.cells #[.int .i64 3, .slice A1 1 c1] 24)).alloc (.cells #[.int .i64 1, .slice G 2 cg] 29)).cell? ⟨w1.heap.size + 1, 1, none⟩ = some (.slice G 2 cg) := blk_cell hk3 1; clear hS hCG hb1 hfb hk3) | (go_at_call 18; refine (back0 w1 (w.heap.size + 1 + 1 + 1) G cg _ _ (Kd.C_below HF.out HB1.out) HCG.out).mono ?_; rintro e w5 ⟨g, cap, rfl, hm0, hm1, hb5⟩; have hBA := below_alloc (below_alloc (below_alloc (below_alloc (Below.refl w1.heap.size w1) (.cells #[.int .i64 3, .slice A1 1 c1] 24)) (.cells #[.int .i64 1, .slice G 2 cg] 29)) (.cells #[.int .i64 1, .slice G 2 cg] 29)) (.cells #[.bool true, .bool true, .bool false] 4); have hb15 := below_then hBA hBA.size hb5; have HB5 := Aside0.mk hb15; have hk2 := blk_below (blk_alloc (blk_alloc (blk_alloc (blk_new w1 (.cells #[.int .i64 3, .slice A1 1 c1] 24)) (.cells #[.int .i64 1, .slice G 2 cg] 29)) (.cells #[.int .i64 1, .slice G 2 cg] 29)) (.cells #[.bool true, .bool true, .bool false] 4)) hb5; have hk3 := blk_below (blk_alloc (blk_alloc (heap_new2o w1 (.cells #[.int .i64 3, .slice A1 1 c1] 24) (.cells #[.int .i64 1, .slice G 2 cg] 29)) (.cells #[.int .i64 1, .slice G 2 cg] 29)) (.cells #[.bool true, .bool true, .bool false] 4)) hb5; have hy0 : w5.cell? ⟨w1.heap.size, 0, none⟩ = some (.int .i64 3) := blk_cell hk2 0; have hy1 : w5.cell? ⟨w1.heap.size, 1, none⟩ = some (.slice A1 1 c1) := blk_cell hk2 1; have hz0 : w5.cell? ⟨w1.heap.size + 1, 0, none⟩ = some (.int .i64 1) := blk_cell hk3 0; have hz1 : w5.cell? ⟨w1.heap.size + 1, 1, none⟩ = some (.slice G 2 cg) := blk_cell hk3 1; obtain ⟨a1, B0, cb0, l0, ea1, el0, hca1, _, _⟩ := at_rows (Kd.C_below HC1.out hb15) 0 (by simp); cases ea1; have el1 : l0 = [2, 3] := (Option.some.inj el0).symm; subst el1; have hca : w5.cell? a1 = some (.slice B0 2 cb0) := hca1; clear hca1 hk2 hk3 hb5 hBA hb15 el0))
  go_ret
  exact ⟨rfl, below_then HB0.out HB0.out.size (below_then HB1.out HB1.out.size HB5.out)⟩

end Go.Proofs.Ythhmjfjkbmmcaaa
