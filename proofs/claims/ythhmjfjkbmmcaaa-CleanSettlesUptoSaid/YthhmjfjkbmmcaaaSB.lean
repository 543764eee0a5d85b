/- The hand-walked functions of clean, as the printed texts ask for them. -/
import Derived.Test.YthhmjfjkbmmcaaaSA
import Derived.Maps.Own
import Derived.Maps.OwnOps
import Derived.Maps.Views
import Derived.Test.YthhmjfjkbmmcaaaWNEv
import Derived.Test.YthhmjfjkbmmcaaaWMore
import Derived.Shelf.SlicesE.DeleteFunc
/- lits.Resolve. -/
namespace Go.Proofs.Ythhmjfjkbmmcaaa
open Go.RowKit Go.Proofs.YthhmjfjkbmmcaaaW.PrintWords Go.Proofs.YthhmjfjkbmmcaaaW.PrintLast Go.Proofs.YthhmjfjkbmmcaaaW.PrintMore
set_option linter.unusedVariables false
set_option linter.unusedSimpArgs false

/-- What two clauses come to at a literal. -/
def resv (a b : List Int) (v : Int) : List Int × Int :=
  if (pairv a b).2.2 ≠ 0 then ([], (pairv a b).2.2)
  else if bsHas (pairv a b).1 v && bsHas (pairv a b).2.1 (-v) then
    (if (nrm (dropv (pairv a b).1 v ++ dropv (pairv a b).2.1 (-v))).2 then ((nrm (dropv (pairv a b).1 v ++ dropv (pairv a b).2.1 (-v))).1, 0) else ([], 10))
  else ([], 11)

theorem pairv_mem {a b : List Int} : (∀ x ∈ (pairv a b).1, x ∈ a) ∧ (∀ x ∈ (pairv a b).2.1, x ∈ b) ∧ (pairv a b).1.length ≤ a.length ∧ (pairv a b).2.1.length ≤ b.length ∧ ((pairv a b).2.2 = 0 ∨ (pairv a b).2.2 = 10) := by
  unfold pairv
  split
  · exact ⟨fun x h => nrm_mem h, fun x h => nrm_mem h, nrm_length _, nrm_length _, .inl rfl⟩
  · exact ⟨fun x h => by simp at h, fun x h => by simp at h, by simp, by simp, .inr rfl⟩
theorem dropv_mem {xs : List Int} {x y : Int} (h : y ∈ dropv xs x) : y ∈ xs := by
  unfold dropv at h
  split at h
  · rcases List.mem_append.1 h with h | h
    · exact List.mem_of_mem_take h
    · exact List.mem_of_mem_drop h
  · exact h
theorem dropv_length (xs : List Int) (x : Int) : (dropv xs x).length ≤ xs.length := by
  unfold dropv
  split
  · simp; omega
  · exact Nat.le_refl _
theorem own_le' {w : World} {base n c : Nat} {e : TypeId} {A : Option Addr} {xs : List Value} (h : w.ownsRow base e 1 (.slice A n c) n xs) : n ≤ c := own_le h

set_option maxHeartbeats 4000000 in
theorem resolve_calls (A B : Option Addr) (ca cb : Nat) (a b : List Int) (v : Int) (w : World) (ha : Kd.C (Kd.int .i64) w A a.length a) (hb : Kd.C (Kd.int .i64) w B b.length b) (ga : Good a) (gb : Good b) (hv : LitOk v) :
    Calls Try.prog 42 #[.slice A a.length ca, .slice B b.length cb, .int .i64 v] w fun e w' => ∃ X d, e = .returned (.tuple #[.slice X (resv a b v).1.length d, .int .i64 (resv a b v).2]) ∧ d = (resv a b v).1.length ∧ Kd.C (Kd.int .i64) w' X (resv a b v).1.length (resv a b v).1 ∧ (∀ ad, X = some ad → w.heap.size ≤ ad.block) ∧ Below w.heap.size w w' := by
  obtain ⟨hmx, hmy, hlx, hly, he⟩ := @pairv_mem a b
  have hP := pair_calls A B ca cb a b w ha hb ga gb
  have hRV := resv.eq_1 a b v
  rcases hq : pairv a b with ⟨x, y, e⟩
  rw [hq] at hmx hmy hlx hly he hP hRV
  simp only at hmx hmy hlx hly he hP hRV
  have hla := ga.1
  have hlb := gb.1
  have HSX := Aside0.mk (show ∀ z ∈ x, Sml z from fun z hz => ga.sml z (hmx z hz))
  have HSY := Aside0.mk (show ∀ z ∈ y, Sml z from fun z hz => gb.sml z (hmy z hz))
  have HSV := Aside0.mk hv.sml
  have hv2 : Sml (-v) := by have := hv.sml; unfold Sml at *; omega
  have HSW := Aside0.mk hv2
  have HV := Aside0.mk hv
  have HP := Aside0.mk hP
  have HRV := Aside0.mk hRV
  have hbv : -262144 ≤ v ∧ v ≤ 262144 := hv.2
  obtain ⟨nx, ex⟩ : ∃ nx, nx = x.length := ⟨_, rfl⟩
  obtain ⟨ny, ey⟩ : ∃ ny, ny = y.length := ⟨_, rfl⟩
  have hnx : nx ≤ 16384 := by omega
  have hny : ny ≤ 16384 := by omega
  have EX := Aside0.mk ex
  have EY := Aside0.mk ey
  rw [← ex, ← ey] at HP
  obtain ⟨na, ea⟩ : ∃ na, na = a.length := ⟨_, rfl⟩
  obtain ⟨nb, eb⟩ : ∃ nb, nb = b.length := ⟨_, rfl⟩
  rw [← ea, ← eb] at HP ⊢
  clear hmx hmy hlx hly hP hRV hq ha hb ga gb hv hv2 hla hlb ex ey ea eb
  rcases he with rfl | rfl
  · have hrv := HRV.out
    rw [if_neg (by simp)] at hrv
    clear HRV
    have F1 : Aside0 (∀ (w : World) X d, Kd.C (Kd.int .i64) w X nx x → Calls Try.prog 67 #[.slice X nx d, .int .i64 v] w fun e w' => e = .returned (.tuple #[.int .i64 (bsAt x v), .bool (bsHas x v)]) ∧ w = w') := ⟨fun w X d h => by rw [EX.out] at h ⊢; exact find_calls X d x v w h HSX.out HSV.out (by have := EX.out; omega)⟩
    have F2 : Aside0 (∀ (w : World) X d, Kd.C (Kd.int .i64) w X ny y → Calls Try.prog 67 #[.slice X ny d, .int .i64 (-v)] w fun e w' => e = .returned (.tuple #[.int .i64 (bsAt y (-v)), .bool (bsHas y (-v))]) ∧ w = w') := ⟨fun w X d h => by rw [EY.out] at h ⊢; exact find_calls X d y (-v) w h HSY.out HSW.out (by have := EY.out; omega)⟩
    have F2 : Aside0 (∀ (w : World) X d, Kd.C (Kd.int .i64) w X ny y → Calls Try.prog 67 #[.slice X ny d, .int .i64 (-v)] w fun e w' => e = .returned (.tuple #[.int .i64 (bsAt y (-v)), .bool (bsHas y (-v))]) ∧ w = w') := F2
    have D1 : Aside0 (∀ (w : World) X d, Kd.C (Kd.int .i64) w X nx x → d = nx → Calls Try.prog 70 #[.slice X nx d, .int .i64 v] w fun e w' => ∃ v', e = .returned v' ∧ w'.ownsRow w.heap.size 3 1 v' (dropv x v).length (nums .i64 (dropv x v)) ∧ Below w.heap.size w w') := ⟨fun w X d h hd => by
      rw [hd, EX.out]
      rw [EX.out] at h
      exact drop_calls X _ x v w h (Nat.le_refl _) (by have := EX.out; omega) HSX.out HSV.out⟩
    have D2 : Aside0 (∀ (w : World) X d, Kd.C (Kd.int .i64) w X ny y → d = ny → Calls Try.prog 70 #[.slice X ny d, .int .i64 (-v)] w fun e w' => ∃ v', e = .returned v' ∧ w'.ownsRow w.heap.size 3 1 v' (dropv y (-v)).length (nums .i64 (dropv y (-v))) ∧ Below w.heap.size w w') := ⟨fun w X d h hd => by
      rw [hd, EY.out]
      rw [EY.out] at h
      exact drop_calls X _ y (-v) w h (Nat.le_refl _) (by have := EY.out; omega) HSY.out HSW.out⟩
    have hd1 := dropv_length x v
    have hd2 := dropv_length y (-v)
    rw [← EX.out] at hd1
    rw [← EY.out] at hd2
    have HS1 := Aside0.mk (show ∀ z ∈ dropv x v ++ dropv y (-v), Sml z from fun z hz => by
      rcases List.mem_append.1 hz with hz | hz
      · exact HSX.out z (dropv_mem hz)
      · exact HSY.out z (dropv_mem hz))
    generalize hdx1 : dropv x v = x1 at *
    generalize hdy1 : dropv y (-v) = y1 at *
    obtain ⟨m1, e1⟩ : ∃ m1, m1 = x1.length := ⟨_, rfl⟩
    obtain ⟨m2, e2⟩ : ∃ m2, m2 = y1.length := ⟨_, rfl⟩
    rw [← e1] at hd1 D1
    rw [← e2] at hd2 D2
    rcases hn : nrm (x1 ++ y1) with ⟨z, okz⟩
    have HNZ := Aside0.mk (show okz = false → z = [] from fun h => by
      have hn' := hn
      unfold nrm at hn'
      split at hn' <;> simp_all)
    have N1 : Aside0 (∀ (w : World) X d, Kd.C (Kd.int .i64) w X (m1 + m2) (x1 ++ y1) → Calls Try.prog 68 #[.slice X (m1 + m2) d] w fun e w' => ∃ B d, e = .returned (.tuple #[.slice B z.length d, .bool okz]) ∧ d = z.length ∧ Kd.C (Kd.int .i64) w' B z.length z ∧ (∀ ad, B = some ad → w.heap.size ≤ ad.block) ∧ Below w.heap.size w w') := ⟨fun w X d h => by
      have e : m1 + m2 = (x1 ++ y1).length := by rw [List.length_append, e1, e2]
      rw [e] at h ⊢
      have := normal_calls X d (x1 ++ y1) w h HS1.out (by omega)
      rw [hn] at this
      exact this⟩
    rw [hn] at hrv
    clear hn e1 e2 hdx1 hdy1 HS1 HSX HSY
    rcases h1 : bsHas x v with _ | _
    · rw [h1, Bool.false_and, if_neg (by simp)] at hrv
      have HRV := Aside0.mk hrv
      rw [h1] at F1
      clear h1 hrv
      rw [HRV.out]
      go_enter Try.func42, Try.ntmps42
      go_wp2_with (first | (go_at_call 65; refine HP.out.mono ?_; clear HP; rintro e w1 ⟨X, dx, Y, dy, rfl, rfl, rfl, hX, hY, hb1⟩; have HX := Aside0.mk hX; have HY := Aside0.mk hY; have HB1 := Aside0.mk hb1; clear hX hY hb1) | (go_at_call 66; refine (isForm_calls v _ HV.out).mono ?_; rintro e w2 ⟨rfl, rfl⟩) | (go_at_call 67; first | (refine (F1.out _ _ _ HX.out).mono ?_; clear F1; rintro e w3 ⟨rfl, rfl⟩) | (refine (F2.out _ _ _ HY.out).mono ?_; clear F2; rintro e w3 ⟨rfl, rfl⟩)))
      go_ret2
      exact ⟨none, 0, rfl, rfl, Kd.C_nil _ _, fun ad h => (by cases h), HB1.out⟩
    · rcases h2 : bsHas y (-v) with _ | _
      · rw [h1, h2, Bool.and_false, if_neg (by simp)] at hrv
        have HRV := Aside0.mk hrv
        rw [h1] at F1
        rw [h2] at F2
        clear h1 h2 hrv
        rw [HRV.out]
        go_enter Try.func42, Try.ntmps42
        go_wp2_with (first | (go_at_call 65; refine HP.out.mono ?_; clear HP; rintro e w1 ⟨X, dx, Y, dy, rfl, rfl, rfl, hX, hY, hb1⟩; have HX := Aside0.mk hX; have HY := Aside0.mk hY; have HB1 := Aside0.mk hb1; clear hX hY hb1) | (go_at_call 66; refine (isForm_calls v _ HV.out).mono ?_; rintro e w2 ⟨rfl, rfl⟩) | (go_at_call 67; first | (refine (F1.out _ _ _ HX.out).mono ?_; clear F1; rintro e w3 ⟨rfl, rfl⟩) | (refine (F2.out _ _ _ HY.out).mono ?_; clear F2; rintro e w3 ⟨rfl, rfl⟩)))
        go_ret2
        exact ⟨none, 0, rfl, rfl, Kd.C_nil _ _, fun ad h => (by cases h), HB1.out⟩
      · rw [h1, h2, Bool.and_true, if_pos rfl] at hrv
        rw [h1] at F1
        rw [h2] at F2
        cases okz with
        | true =>
          have HRV := Aside0.mk (show resv a b v = (z, 0) from hrv)
          clear h1 h2 hrv
          rw [HRV.out]
          go_enter Try.func42, Try.ntmps42
          go_wp2_with (first | (go_at_call 65; refine HP.out.mono ?_; clear HP; rintro e w1 ⟨X, dx, Y, dy, rfl, rfl, rfl, hX, hY, hb1⟩; have HX := Aside0.mk hX; have HY := Aside0.mk hY; have HB1 := Aside0.mk hb1; clear hX hY hb1) | (go_at_call 66; refine (isForm_calls v _ HV.out).mono ?_; rintro e w2 ⟨rfl, rfl⟩) | (go_at_call 67; first | (refine (F1.out _ _ _ HX.out).mono ?_; clear F1; rintro e w3 ⟨rfl, rfl⟩) | (refine (F2.out _ _ _ HY.out).mono ?_; clear F2; rintro e w3 ⟨rfl, rfl⟩)) | (go_at_call 70; first | (refine (D1.out _ _ _ HX.out rfl).mono ?_; clear D1; rintro e w4 ⟨v1, rfl, ho1, hb4⟩; obtain ⟨X1, c1, rfl⟩ := own_slice ho1; have hle1 := own_le ho1; have HC1 := Aside0.mk (C_of_own ho1); have HB4 := Aside0.mk (below_then HB1.out HB1.out.size hb4); have HY4 := Aside0.mk (Kd.C_below HY.out hb4); clear ho1 hb4) | (refine (D2.out _ _ _ HY4.out rfl).mono ?_; clear D2; rintro e w5 ⟨v2, rfl, ho2, hb5⟩; obtain ⟨X2, c2, rfl⟩ := own_slice ho2; have hle2 := own_le ho2; have HC2 := Aside0.mk (C_of_own ho2); have HC15 := Aside0.mk (Kd.C_below HC1.out hb5); have HB5 := Aside0.mk (below_then HB4.out HB4.out.size hb5); clear ho2 hb5)) | (go_at_call 69; refine (concat2_calls _ X1 X2 m1 c1 m2 c2 _ _ _ (Kd.C_below HC15.out (below_alloc (Below.refl _ _) _)) (Kd.C_below HC2.out (below_alloc (Below.refl _ _) _)) hle1 hle2 (by rw [cell_new]; rfl) (by rw [cell_new]; rfl) (by omega)).mono ?_; rintro e w6 ⟨v3, rfl, ho3, hb6⟩; obtain ⟨X3, c3, rfl⟩ := own_slice ho3; have HC3 := Aside0.mk (C_of_own ho3); have HB6 := Aside0.mk (below_then (below_alloc HB5.out _) (below_alloc HB5.out _).size hb6); clear ho3 hb6) | (go_at_call 68; refine (N1.out _ _ _ HC3.out).mono ?_; rintro e w7 ⟨X4, c4, rfl, rfl, hC4, hfr, hb7⟩; have HFR := Aside0.mk (fun ad h => Nat.le_trans HB6.out.size (hfr ad h)); clear hfr; have HC4 := Aside0.mk hC4; have HB7 := Aside0.mk (below_then HB6.out HB6.out.size hb7); clear hC4 hb7))
          go_ret2
          exact ⟨_, _, rfl, rfl, HC4.out, HFR.out, HB7.out⟩
        | false =>
          have HRV := Aside0.mk (show resv a b v = ([], 10) from hrv)
          clear h1 h2 hrv
          rw [HRV.out]
          go_enter Try.func42, Try.ntmps42
          go_wp2_with (first | (go_at_call 65; refine HP.out.mono ?_; clear HP; rintro e w1 ⟨X, dx, Y, dy, rfl, rfl, rfl, hX, hY, hb1⟩; have HX := Aside0.mk hX; have HY := Aside0.mk hY; have HB1 := Aside0.mk hb1; clear hX hY hb1) | (go_at_call 66; refine (isForm_calls v _ HV.out).mono ?_; rintro e w2 ⟨rfl, rfl⟩) | (go_at_call 67; first | (refine (F1.out _ _ _ HX.out).mono ?_; clear F1; rintro e w3 ⟨rfl, rfl⟩) | (refine (F2.out _ _ _ HY.out).mono ?_; clear F2; rintro e w3 ⟨rfl, rfl⟩)) | (go_at_call 70; first | (refine (D1.out _ _ _ HX.out rfl).mono ?_; clear D1; rintro e w4 ⟨v1, rfl, ho1, hb4⟩; obtain ⟨X1, c1, rfl⟩ := own_slice ho1; have hle1 := own_le ho1; have HC1 := Aside0.mk (C_of_own ho1); have HB4 := Aside0.mk (below_then HB1.out HB1.out.size hb4); have HY4 := Aside0.mk (Kd.C_below HY.out hb4); clear ho1 hb4) | (refine (D2.out _ _ _ HY4.out rfl).mono ?_; clear D2; rintro e w5 ⟨v2, rfl, ho2, hb5⟩; obtain ⟨X2, c2, rfl⟩ := own_slice ho2; have hle2 := own_le ho2; have HC2 := Aside0.mk (C_of_own ho2); have HC15 := Aside0.mk (Kd.C_below HC1.out hb5); have HB5 := Aside0.mk (below_then HB4.out HB4.out.size hb5); clear ho2 hb5)) | (go_at_call 69; refine (concat2_calls _ X1 X2 m1 c1 m2 c2 _ _ _ (Kd.C_below HC15.out (below_alloc (Below.refl _ _) _)) (Kd.C_below HC2.out (below_alloc (Below.refl _ _) _)) hle1 hle2 (by rw [cell_new]; rfl) (by rw [cell_new]; rfl) (by omega)).mono ?_; rintro e w6 ⟨v3, rfl, ho3, hb6⟩; obtain ⟨X3, c3, rfl⟩ := own_slice ho3; have HC3 := Aside0.mk (C_of_own ho3); have HB6 := Aside0.mk (below_then (below_alloc HB5.out _) (below_alloc HB5.out _).size hb6); clear ho3 hb6) | (go_at_call 68; refine (N1.out _ _ _ HC3.out).mono ?_; rintro e w7 ⟨X4, c4, rfl, rfl, hC4, hfr, hb7⟩; have HFR := Aside0.mk (fun ad h => Nat.le_trans HB6.out.size (hfr ad h)); clear hfr; have HC4 := Aside0.mk hC4; have HB7 := Aside0.mk (below_then HB6.out HB6.out.size hb7); clear hC4 hb7))
          go_ret2
          exact ⟨none, 0, rfl, rfl, Kd.C_nil _ _, fun ad h => (by cases h), HB7.out⟩
  · have hrv := HRV.out
    rw [if_pos (by simp)] at hrv
    clear HRV
    have HRV := Aside0.mk hrv
    clear hrv
    rw [HRV.out]
    go_enter Try.func42, Try.ntmps42
    go_wp2_with (first | (go_at_call 65; refine HP.out.mono ?_; clear HP; rintro e w1 ⟨X, dx, Y, dy, rfl, rfl, rfl, hX, hY, hb1⟩; have HX := Aside0.mk hX; have HY := Aside0.mk hY; have HB1 := Aside0.mk hb1; clear hX hY hb1))
    go_ret2
    exact ⟨none, 0, rfl, rfl, Kd.C_nil _ _, fun ad h => (by cases h), HB1.out⟩

end Go.Proofs.Ythhmjfjkbmmcaaa
/- clean.key. -/
namespace Go.Proofs.Ythhmjfjkbmmcaaa
open Go.RowKit Go.Proofs.YthhmjfjkbmmcaaaW.PrintWords Go.Proofs.YthhmjfjkbmmcaaaW.PrintLast Go.Proofs.YthhmjfjkbmmcaaaW.PrintMore
set_option linter.unusedVariables false
set_option linter.unusedSimpArgs false

/-- A literal as four bytes. -/
def key4 (x : Int) : List Int := [x % 256, x / 256 % 256, x / 65536 % 256, x / 16777216 % 256]
def keyNums (xs : List Int) : List Int := xs.flatMap key4
theorem keyNums_length (xs : List Int) : (keyNums xs).length = 4 * xs.length := by
  induction xs with
  | nil => rfl
  | cons x xs ih => simp [keyNums, key4] at *; omega
theorem keyNums_take {xs : List Int} {i : Nat} (h : i < xs.length) : keyNums (xs.take (i + 1)) = keyNums (xs.take i) ++ key4 (rd xs (i : Int)) := by
  unfold keyNums
  rw [List.take_add_one, List.flatMap_append]
  simp [ List.getElem?_eq_getElem h, rd, List.getD_eq_getElem?_getD]
theorem infoByte : (Try.prog.info? 5).map (fun i => (i.zero, i.size, i.bytes)) = some (some (.int .u8 0), 1, 1) := by kernel_rfl
theorem rowN_nums {w : World} {k : IntKind} {g : Nat} {xs : List Int} {e : TypeId} (h : w.heap[g]? = some (.cells (nums k xs).toArray e (0, 0))) (hm : xs.length ≤ 9223372036854775807) : RowN w 1 (some ⟨g, 0, none⟩) xs.length (nums k xs) := by
  refine ⟨by rw [nums_length]; omega, hm, fun hn => ⟨_, rfl, fun j u hu => ?_⟩, fun u hu => by simp only [nums, List.mem_map] at hu; obtain ⟨q, _, rfl⟩ := hu; rfl⟩
  rw [add_plain]
  unfold World.cell?
  simp [h, hu]

theorem C_of_own8 {w : World} {base n : Nat} {e : TypeId} {A : Option Addr} {c : Nat} {xs : List Int} (h : w.ownsRow base e 1 (.slice A n c) n (nums .u8 xs)) : (Kd.int .u8).C w A n xs := by
  have hl : xs.length = n := by have := h.1; rw [nums_length] at this; omega
  subst hl
  exact (Kd.R_reads' (Kd.R_of_own (h1 := fun _ => rfl) (ok := fun _ => True) h (fun _ _ => trivial))).2.2
set_option maxRecDepth 100000 in
set_option maxHeartbeats 4000000 in
theorem key_calls (A : Option Addr) (c : Nat) (xs : List Int) (w : World) (hr : Kd.C (Kd.int .i64) w A xs.length xs) (hg : Good xs) :
    Calls Try.prog 44 #[.slice A xs.length c] w fun e w' => e = .returned (.string (strOfNums (keyNums xs))) ∧ Below w.heap.size w w' := by
  have hmax := hg.1
  have HR := Aside0.mk hr
  have HS := Aside0.mk hg.sml
  obtain ⟨n, hn⟩ : ∃ n, n = xs.length := ⟨_, rfl⟩
  have HN := Aside0.mk hn
  rw [← hn] at hmax HR ⊢
  obtain ⟨i0, hi, hz0, hz1, hz2⟩ := info_parts infoByte
  clear hr hg hn
  go_enter Try.func44, Try.ntmps44
  go_wp2_with (at_make; refine wpList_make_own _ rfl _ _ _ rfl w.heap.size 5 i0 _ 1 Try.underlying98 hi hz0 hz1 .i64 .i64 _ (4 * n) rfl rfl (by push_cast; omega) (by rw [hz2]; omega) (by unfold maxLen; omega) (Nat.le_refl _) ?_; intro w1 hown hg; have HO := Aside0.mk hown; have HB := Aside0.mk ((Below.refl w.heap.size w).grown hg (Nat.le_refl _) (by simp)); clear hown hg)
  go_loopg [3, 5, 12] (n + 1) (fun kq v3 v5 v12 w' => ∃ i : Nat, v12 = .int .i64 (i : Int) ∧ Aside0 (w'.ownsRow w.heap.size 5 1 v3 (4 * i) (nums .u8 (keyNums (xs.take i)))) ∧ i ≤ n ∧ Aside0 (n < kq + i) ∧ Aside0 (Below w.heap.size w w'))
  case atStart => exact ⟨0, rfl, ⟨by simpa [keyNums, nums] using HO.out⟩, Nat.zero_le _, ⟨by omega⟩, HB⟩
  case round =>
    clear HO HB
    obtain ⟨i, rfl, HO, hin, HK, HB⟩ := hrel
    cases gk with
    | zero => exact absurd HK.out (by omega)
    | succ k =>
      by_cases hlt : i < n
      · obtain ⟨ad, e, hc⟩ := Kd.at_int (Kd.C_below HR.out HB.out) (i : Int) (by omega) (by omega)
        cases e
        rw [Int.toNat_natCast] at hc
        have HT := Aside0.mk (keyNums_take (xs := xs) (i := i) (by have := HN.out; omega))
        have hy := rd_sml HS.out (i : Int)
        generalize rd xs (i : Int) = y at hc hy HT
        unfold Sml at hy
        go_wp2_with (at_builtin; refine law_appends rfl (.tmp 16) (.tmp 28) 98 5 (.int .u8 0) 1 1 rfl Try.underlying98 infoByte rfl (by omega) (by omega) w.heap.size _ _ _ rfl (own_alloc HO.out _) _ 4 4 (nums .u8 (key4 y)) rfl (rowN_nums (xs := key4 y) (heap_alloc_new _ _) (by simp [key4])) (by omega) (below_alloc HB.out _).size ?_; intro v1 w1 hown hg hat; have HO1 := Aside0.mk hown; have HB1 := Aside0.mk ((below_alloc HB.out _).grown hg (below_alloc HB.out _).size (own_base HO.out)); clear hown hg hat HB HO)
        go_roundg k
        case measure => omega
        case rel => exact ⟨i + 1, by go_num, ⟨by rw [HT.out, nums_append]; exact HO1.out⟩, by omega, ⟨by have := HK.out; omega⟩, HB1⟩
      · obtain rfl : i = n := by omega
        obtain ⟨A3, c3, rfl⟩ := own_slice HO.out
        have hq := HO.out
        rw [show xs.take i = xs by rw [HN.out, List.take_length]] at hq
        have hcv := Kd.C_string (dst := 9) Try.underlying98 Try.underlying5 Try.underlying9 (c := c3) (C_of_own8 hq)
        clear hq
        go_wp2
        go_ret
        exact ⟨rfl, HB.out⟩

end Go.Proofs.Ythhmjfjkbmmcaaa
/- lits.lacking, lits.Subsumes, lits.Strengthen. -/
namespace Go.Proofs.Ythhmjfjkbmmcaaa
open Go.RowKit Go.Proofs.YthhmjfjkbmmcaaaW.PrintWords Go.Proofs.YthhmjfjkbmmcaaaW.PrintLast Go.Proofs.YthhmjfjkbmmcaaaW.PrintMore
set_option linter.unusedVariables false
set_option linter.unusedSimpArgs false

/-- The literals of a clause that another one has not. -/
def lackv (x y : List Int) : List Int := x.filter fun l => !bsHas y l
theorem lackv_take {x y : List Int} {i : Nat} (h : i < x.length) : lackv (x.take (i + 1)) y = if bsHas y (rd x (i : Int)) then lackv (x.take i) y else lackv (x.take i) y ++ [rd x (i : Int)] := by
  have hr : rd x (i : Int) = x[i] := by simp [rd, List.getD_eq_getElem?_getD, List.getElem?_eq_getElem h]
  rw [hr, List.take_add_one, List.getElem?_eq_getElem h]
  unfold lackv
  rw [List.filter_append]
  by_cases hb : bsHas y x[i] = true
  · rw [if_pos hb]; simp [hb]
  · rw [if_neg hb]
    have hb' : bsHas y x[i] = false := by simpa using hb
    simp [hb']
theorem lackv_length (x y : List Int) : (lackv x y).length ≤ x.length := List.length_filter_le _ _

set_option maxRecDepth 100000 in
set_option maxHeartbeats 2000000 in
theorem lacking_calls (A B : Option Addr) (ca cb : Nat) (x y : List Int) (w : World) (hx : Kd.C (Kd.int .i64) w A x.length x) (hy : Kd.C (Kd.int .i64) w B y.length y) (sx : ∀ z ∈ x, Sml z) (sy : ∀ z ∈ y, Sml z) (hmx : x.length ≤ 16384) (hmy : y.length ≤ 16384) :
    Calls Try.prog 78 #[.slice A x.length ca, .slice B y.length cb] w fun e w' => ∃ v, e = .returned v ∧ w'.ownsRow w.heap.size 3 1 v (lackv x y).length (nums .i64 (lackv x y)) ∧ Below w.heap.size w w' := by
  have HX := Aside0.mk hx
  have HSX := Aside0.mk sx
  obtain ⟨n, hn⟩ : ∃ n, n = x.length := ⟨_, rfl⟩
  obtain ⟨m, hm⟩ : ∃ m, m = y.length := ⟨_, rfl⟩
  have HF : Aside0 (∀ (W : World) (l : Int), Below w.heap.size w W → Sml l → Calls Try.prog 67 #[.slice B m cb, .int .i64 l] W fun e w' => e = .returned (.tuple #[.int .i64 (bsAt y l), .bool (bsHas y l)]) ∧ W = w') := ⟨fun W l hW hl => by rw [hm]; exact find_calls B cb y l W (Kd.C_below hy hW) sy hl (by omega)⟩
  have HN := Aside0.mk hn
  rw [← hn] at hmx HX ⊢
  rw [← hm]
  clear hx hy sx sy hn hm hmy
  go_enter Try.func78, Try.ntmps78
  go_wp2
  go_loopg [5, 7, 8, 9, 12] (n + 1) (fun kq v5 v7 v8 v9 v12 w' => ∃ i : Nat, v12 = .int .i64 (i : Int) ∧ Aside0 (w'.ownsRow w.heap.size 3 1 v5 (lackv (x.take i) y).length (nums .i64 (lackv (x.take i) y))) ∧ i ≤ n ∧ Aside0 (n < kq + i) ∧ Aside0 (Below w.heap.size w w'))
  case atStart => exact ⟨0, rfl, ⟨by simpa [lackv, nums] using World.ownsRow_nil _ _ _ _⟩, Nat.zero_le _, ⟨by omega⟩, ⟨Below.refl _ _⟩⟩
  case round =>
    obtain ⟨i, rfl, HO, hin, HK, HB⟩ := hrel
    cases gk with
    | zero => exact absurd HK.out (by omega)
    | succ k =>
      by_cases hlt : i < n
      · obtain ⟨ad, e, hc⟩ := Kd.at_int (Kd.C_below HX.out HB.out) (i : Int) (by omega) (by omega)
        cases e
        rw [Int.toNat_natCast] at hc
        have hT := lackv_take (x := x) (y := y) (i := i) (by have := HN.out; omega)
        have hsl := rd_sml HSX.out (i : Int)
        have hlen : (lackv (x.take i) y).length ≤ i := Nat.le_trans (lackv_length _ _) (by rw [List.length_take]; omega)
        generalize rd x (i : Int) = l at hc hT hsl
        have HS := Aside0.mk hsl
        have HLEN := Aside0.mk hlen
        clear hsl hlen
        by_cases hb : bsHas y l = true
        · rw [if_pos hb] at hT
          have HT := Aside0.mk hT
          have HH := Aside0.mk hb
          clear hT hb
          go_wp2_with (go_at_call 67; refine (HF.out _ l HB.out HS.out).mono ?_; rintro e w3 ⟨rfl, rfl⟩; rw [HH.out])
          go_roundg k
          case measure => omega
          case rel => exact ⟨i + 1, by go_num, ⟨by rw [HT.out]; exact HO.out⟩, by omega, ⟨by have := HK.out; omega⟩, HB⟩
        · rw [if_neg hb] at hT
          have HT := Aside0.mk hT
          have HH := Aside0.mk (show bsHas y l = false by simpa using hb)
          clear hT hb
          go_wp2_with (first | (go_at_call 67; refine (HF.out _ l HB.out HS.out).mono ?_; rintro e w3 ⟨rfl, rfl⟩; rw [HH.out]) | (at_builtin; refine law_appends rfl (.tmp 24) (.tmp 26) 40 3 (.int .i64 0) 1 8 rfl Try.underlying40 infoInt rfl (by omega) (by omega) w.heap.size _ _ _ rfl (own_alloc HO.out _) _ 1 1 (nums .i64 [l]) rfl (rowN_nums (xs := [l]) (heap_alloc_new _ _) (by simp)) (by have := HLEN.out; omega) (below_alloc HB.out _).size ?_; intro v1 w1 hown hg hat; have HO1 := Aside0.mk hown; have HB1 := Aside0.mk ((below_alloc HB.out _).grown hg (below_alloc HB.out _).size (own_base HO.out)); clear hown hg hat))
          go_roundg k
          case measure => omega
          case rel => exact ⟨i + 1, by go_num, ⟨by rw [HT.out, List.length_append, nums_append]; exact HO1.out⟩, by omega, ⟨by have := HK.out; omega⟩, HB1⟩
      · obtain rfl : i = n := by omega
        go_wp2
        go_ret
        have hq := HO.out
        rw [show x.take i = x by rw [HN.out, List.take_length]] at hq
        exact ⟨_, rfl, hq, HB.out⟩

/-- Are all literals of a clause in another one. -/
def lsubs (a b : List Int) : Bool × Int := if (pairv a b).2.2 ≠ 0 then (false, (pairv a b).2.2) else ((lackv (pairv a b).1 (pairv a b).2.1).length == 0, 0)

set_option maxHeartbeats 2000000 in
theorem lsubs_calls (A B : Option Addr) (ca cb : Nat) (a b : List Int) (w : World) (ha : Kd.C (Kd.int .i64) w A a.length a) (hb : Kd.C (Kd.int .i64) w B b.length b) (ga : Good a) (gb : Good b) :
    Calls Try.prog 58 #[.slice A a.length ca, .slice B b.length cb] w fun e w' => e = .returned (.tuple #[.bool (lsubs a b).1, .int .i64 (lsubs a b).2]) ∧ Below w.heap.size w w' := by
  obtain ⟨hmx, hmy, hlx, hly, he⟩ := @pairv_mem a b
  have hP := pair_calls A B ca cb a b w ha hb ga gb
  have hRV := lsubs.eq_1 a b
  rcases hq : pairv a b with ⟨x, y, e⟩
  rw [hq] at hmx hmy hlx hly he hP hRV
  simp only at hmx hmy hlx hly he hP hRV
  have hla := ga.1
  have hlb := gb.1
  have HP := Aside0.mk hP
  have HRV := Aside0.mk hRV
  obtain ⟨nx, ex⟩ : ∃ nx, nx = x.length := ⟨_, rfl⟩
  obtain ⟨ny, ey⟩ : ∃ ny, ny = y.length := ⟨_, rfl⟩
  obtain ⟨m, em⟩ : ∃ m, m = (lackv x y).length := ⟨_, rfl⟩
  have hLK : ∀ (W : World) X dx Y dy, Kd.C (Kd.int .i64) W X nx x → Kd.C (Kd.int .i64) W Y ny y → Calls Try.prog 78 #[.slice X nx dx, .slice Y ny dy] W fun e w' => ∃ v, e = .returned v ∧ w'.ownsRow W.heap.size 3 1 v m (nums .i64 (lackv x y)) ∧ Below W.heap.size W w' := fun W X dx Y dy h1 h2 => by
    rw [ex] at h1 ⊢
    rw [ey] at h2 ⊢
    rw [em]
    exact lacking_calls X Y dx dy x y W h1 h2 (fun z hz => ga.sml z (hmx z hz)) (fun z hz => gb.sml z (hmy z hz)) (by omega) (by omega)
  have HLK := Aside0.mk hLK
  rw [← ex, ← ey] at HP
  obtain ⟨na, ea⟩ : ∃ na, na = a.length := ⟨_, rfl⟩
  obtain ⟨nb, eb⟩ : ∃ nb, nb = b.length := ⟨_, rfl⟩
  rw [← ea, ← eb] at HP ⊢
  rw [← em] at HRV
  have hm : m ≤ 16384 := by have := lackv_length x y; omega
  clear hmx hmy hlx hly hP hRV hq ha hb ga gb hla hlb ex ey ea eb hLK em
  rcases he with rfl | rfl
  · have hrv := HRV.out
    rw [if_neg (by simp)] at hrv
    clear HRV
    have HRV := Aside0.mk hrv
    clear hrv
    rw [HRV.out]
    have hz : ((m : Int) == 0) = (m == 0) := by rw [Bool.eq_iff_iff]; simp
    go_enter Try.func58, Try.ntmps58
    go_wp2_with (first | (go_at_call 65; refine HP.out.mono ?_; clear HP; rintro e w1 ⟨X, dx, Y, dy, rfl, rfl, rfl, hX, hY, hb1⟩; have HX := Aside0.mk hX; have HY := Aside0.mk hY; have HB1 := Aside0.mk hb1; clear hX hY hb1) | (go_at_call 78; refine (HLK.out _ _ _ _ _ HX.out HY.out).mono ?_; rintro e w3 ⟨v, rfl, ho, hb3⟩; obtain ⟨A3, c3, rfl⟩ := own_slice ho; have HB3 := Aside0.mk (below_then HB1.out HB1.out.size hb3); clear ho hb3))
    go_ret2
    exact ⟨by first | rfl | simp_all, HB3.out⟩
  · have hrv := HRV.out
    rw [if_pos (by simp)] at hrv
    clear HRV
    have HRV := Aside0.mk hrv
    clear hrv
    rw [HRV.out]
    go_enter Try.func58, Try.ntmps58
    go_wp2_with (first | (go_at_call 65; refine HP.out.mono ?_; clear HP; rintro e w1 ⟨X, dx, Y, dy, rfl, rfl, rfl, hX, hY, hb1⟩; have HX := Aside0.mk hX; have HY := Aside0.mk hY; have HB1 := Aside0.mk hb1; clear hX hY hb1))
    go_ret2
    exact ⟨rfl, HB1.out⟩

end Go.Proofs.Ythhmjfjkbmmcaaa
/- lits.Strengthen. -/
namespace Go.Proofs.Ythhmjfjkbmmcaaa
open Go.RowKit Go.Proofs.YthhmjfjkbmmcaaaW.PrintWords Go.Proofs.YthhmjfjkbmmcaaaW.PrintLast Go.Proofs.YthhmjfjkbmmcaaaW.PrintMore
set_option linter.unusedVariables false
set_option linter.unusedSimpArgs false

/-- A clause made shorter by another one. -/
def lstr (a b : List Int) : List Int × Bool × Int :=
  if (pairv a b).2.2 ≠ 0 then ([], false, (pairv a b).2.2)
  else match lackv (pairv a b).1 (pairv a b).2.1 with
    | [z] => if bsHas (pairv a b).2.1 (-z) then (dropv (pairv a b).2.1 (-z), true, 0) else ([], false, 0)
    | _ => ([], false, 0)

set_option maxHeartbeats 4000000 in
theorem lstr_calls (A B : Option Addr) (ca cb : Nat) (a b : List Int) (w : World) (ha : Kd.C (Kd.int .i64) w A a.length a) (hb : Kd.C (Kd.int .i64) w B b.length b) (ga : Good a) (gb : Good b) :
    Calls Try.prog 79 #[.slice A a.length ca, .slice B b.length cb] w fun e w' => ∃ X d, e = .returned (.tuple #[.slice X (lstr a b).1.length d, .bool (lstr a b).2.1, .int .i64 (lstr a b).2.2]) ∧ (lstr a b).1.length ≤ d ∧ Kd.C (Kd.int .i64) w' X (lstr a b).1.length (lstr a b).1 ∧ (∀ ad, X = some ad → w.heap.size ≤ ad.block) ∧ Below w.heap.size w w' := by
  obtain ⟨hmx, hmy, hlx, hly, he⟩ := @pairv_mem a b
  have hP := pair_calls A B ca cb a b w ha hb ga gb
  have hRV := lstr.eq_1 a b
  rcases hq : pairv a b with ⟨x, y, e⟩
  rw [hq] at hmx hmy hlx hly he hP hRV
  simp only at hmx hmy hlx hly he hP hRV
  have hla := ga.1
  have hlb := gb.1
  have HP := Aside0.mk hP
  obtain ⟨nx, ex⟩ : ∃ nx, nx = x.length := ⟨_, rfl⟩
  obtain ⟨ny, ey⟩ : ∃ ny, ny = y.length := ⟨_, rfl⟩
  obtain ⟨L, eL⟩ : ∃ L, L = lackv x y := ⟨_, rfl⟩
  obtain ⟨m, em⟩ : ∃ m, m = L.length := ⟨_, rfl⟩
  have hsL : ∀ z ∈ L, LitOk z := fun z hz => by
    rw [eL] at hz
    exact ga.2 z (hmx z (List.mem_filter.1 hz).1)
  have hLK : ∀ (W : World) X dx Y dy, Kd.C (Kd.int .i64) W X nx x → Kd.C (Kd.int .i64) W Y ny y → Calls Try.prog 78 #[.slice X nx dx, .slice Y ny dy] W fun e w' => ∃ v, e = .returned v ∧ w'.ownsRow W.heap.size 3 1 v m (nums .i64 L) ∧ Below W.heap.size W w' := fun W X dx Y dy h1 h2 => by
    rw [ex] at h1 ⊢
    rw [ey] at h2 ⊢
    rw [em, eL]
    exact lacking_calls X Y dx dy x y W h1 h2 (fun z hz => ga.sml z (hmx z hz)) (fun z hz => gb.sml z (hmy z hz)) (by omega) (by omega)
  have HLK := Aside0.mk hLK
  rw [← ex, ← ey] at HP
  have hnx : nx ≤ 16384 := by omega
  have hny : ny ≤ 16384 := by omega
  have HSY := Aside0.mk (show ∀ z ∈ y, Sml z from fun z hz => gb.sml z (hmy z hz))
  have EY := Aside0.mk ey
  obtain ⟨na, ea⟩ : ∃ na, na = a.length := ⟨_, rfl⟩
  obtain ⟨nb, eb⟩ : ∃ nb, nb = b.length := ⟨_, rfl⟩
  rw [← ea, ← eb] at HP ⊢
  rw [← eL] at hRV
  have HRV := Aside0.mk hRV
  have hm : m ≤ 16384 := by have := lackv_length x y; rw [← eL] at this; omega
  clear hmx hmy hlx hly hP hRV hq ha hb ga gb hla hlb ex ey ea eb hLK eL
  rcases he with rfl | rfl
  · have hrv := HRV.out
    rw [if_neg (by simp)] at hrv
    clear HRV
    by_cases h1 : m = 1
    · obtain ⟨z, rfl⟩ : ∃ z, L = [z] := List.length_eq_one_iff.1 (by omega)
      subst h1
      have hz := hsL z (by simp)
      have HZ := Aside0.mk hz
      have hz2 : Sml (-z) := by have := hz.sml; unfold Sml at *; omega
      have HZ2 := Aside0.mk hz2
      have hb0 : -262144 ≤ z ∧ z ≤ 262144 := hz.2
      simp only at hrv
      have HRV := Aside0.mk hrv
      have F2 : Aside0 (∀ (w : World) X d, Kd.C (Kd.int .i64) w X ny y → Calls Try.prog 67 #[.slice X ny d, .int .i64 (-z)] w fun e w' => e = .returned (.tuple #[.int .i64 (bsAt y (-z)), .bool (bsHas y (-z))]) ∧ w = w') := ⟨fun w X d h => by rw [EY.out] at h ⊢; exact find_calls X d y (-z) w h HSY.out HZ2.out (by have := EY.out; omega)⟩
      have D2 : Aside0 (∀ (w : World) X d, Kd.C (Kd.int .i64) w X ny y → d = ny → Calls Try.prog 70 #[.slice X ny d, .int .i64 (-z)] w fun e w' => ∃ v', e = .returned v' ∧ w'.ownsRow w.heap.size 3 1 v' (dropv y (-z)).length (nums .i64 (dropv y (-z))) ∧ Below w.heap.size w w') := ⟨fun w X d h hd => by
        rw [hd, EY.out]
        rw [EY.out] at h
        exact drop_calls X _ y (-z) w h (Nat.le_refl _) (by have := EY.out; omega) HSY.out HZ2.out⟩
      clear hz hz2 hsL em hrv
      rcases hh : bsHas y (-z) with _ | _
      · have hrv := HRV.out
        rw [hh, if_neg (by simp)] at hrv
        rw [hh] at F2
        clear HRV
        have HRV := Aside0.mk hrv
        clear hrv hh
        rw [HRV.out]
        go_enter Try.func79, Try.ntmps79
        go_wp2_with (first | (go_at_call 65; refine HP.out.mono ?_; clear HP; rintro e w1 ⟨X, dx, Y, dy, rfl, rfl, rfl, hX, hY, hb1⟩; have HX := Aside0.mk hX; have HY := Aside0.mk hY; have HB1 := Aside0.mk hb1; clear hX hY hb1) | (go_at_call 78; refine (HLK.out _ _ _ _ _ HX.out HY.out).mono ?_; rintro e w3 ⟨v, rfl, ho, hb3⟩; obtain ⟨A3, c3, rfl⟩ := own_slice ho; obtain ⟨a3, ea3, hc3⟩ := Kd.at_int (C_of_own ho) 0 (by omega) (by omega); cases ea3; have hc3' : w3.cell? a3 = some (.int .i64 z) := hc3; clear hc3; have HY3 := Aside0.mk (Kd.C_below HY.out hb3); have HB3 := Aside0.mk (below_then HB1.out HB1.out.size hb3); clear ho hb3) | (go_at_call 67; refine (F2.out _ _ _ HY3.out).mono ?_; rintro e w4 ⟨rfl, rfl⟩))
        (try simp only [Exit.inBlock, Exit.then]); refine bodyPost_ret (results_tmp3 rfl _ _ _) rfl ?_
        exact ⟨none, 0, rfl, Nat.le_refl _, Kd.C_nil _ _, fun ad h => (by cases h), HB3.out⟩
      · have hrv := HRV.out
        rw [hh, if_pos rfl] at hrv
        rw [hh] at F2
        clear HRV
        have HRV := Aside0.mk hrv
        clear hrv hh
        rw [HRV.out]
        simp only
        go_enter Try.func79, Try.ntmps79
        go_wp2_with (first | (go_at_call 65; refine HP.out.mono ?_; clear HP; rintro e w1 ⟨X, dx, Y, dy, rfl, rfl, rfl, hX, hY, hb1⟩; have HX := Aside0.mk hX; have HY := Aside0.mk hY; have HB1 := Aside0.mk hb1; clear hX hY hb1) | (go_at_call 78; refine (HLK.out _ _ _ _ _ HX.out HY.out).mono ?_; rintro e w3 ⟨v, rfl, ho, hb3⟩; obtain ⟨A3, c3, rfl⟩ := own_slice ho; obtain ⟨a3, ea3, hc3⟩ := Kd.at_int (C_of_own ho) 0 (by omega) (by omega); cases ea3; have hc3' : w3.cell? a3 = some (.int .i64 z) := hc3; clear hc3; have HY3 := Aside0.mk (Kd.C_below HY.out hb3); have HB3 := Aside0.mk (below_then HB1.out HB1.out.size hb3); clear ho hb3) | (go_at_call 67; refine (F2.out _ _ _ HY3.out).mono ?_; rintro e w4 ⟨rfl, rfl⟩) | (go_at_call 70; refine (D2.out _ _ _ HY3.out rfl).mono ?_; rintro e w5 ⟨v5, rfl, ho5, hb5⟩; obtain ⟨X5, c5, rfl⟩ := own_slice ho5; have hle5 := own_le ho5; have HC5 := Aside0.mk (C_of_own ho5); have HFR := Aside0.mk (show ∀ ad, X5 = some ad → w.heap.size ≤ ad.block from fun ad e => Nat.le_trans HB3.out.size (own_base ho5 _ (by rw [e]; rfl))); have HB5 := Aside0.mk (below_then HB3.out HB3.out.size hb5); clear ho5 hb5))
        (try simp only [Exit.inBlock, Exit.then]); refine bodyPost_ret (results_tmp3 rfl _ _ _) rfl ?_
        exact ⟨_, _, rfl, hle5, HC5.out, HFR.out, HB5.out⟩
    · have hrv2 : lstr a b = ([], false, 0) := by
        rw [hrv]
        match L, em with
        | [], _ => rfl
        | [_], em => exact absurd em h1
        | _ :: _ :: _, _ => rfl
      have HRV := Aside0.mk hrv2
      clear hrv hrv2 hsL em
      rw [HRV.out]
      have hz : ((m : Int) == 1) = false := by rw [beq_eq_false_iff_ne]; omega
      have hz2 : ((m : Int) != 1) = true := by rw [bne_iff_ne]; omega
      go_enter Try.func79, Try.ntmps79
      go_wp2_with (first | (go_at_call 65; refine HP.out.mono ?_; clear HP; rintro e w1 ⟨X, dx, Y, dy, rfl, rfl, rfl, hX, hY, hb1⟩; have HX := Aside0.mk hX; have HY := Aside0.mk hY; have HB1 := Aside0.mk hb1; clear hX hY hb1) | (go_at_call 78; refine (HLK.out _ _ _ _ _ HX.out HY.out).mono ?_; rintro e w3 ⟨v, rfl, ho, hb3⟩; obtain ⟨A3, c3, rfl⟩ := own_slice ho; have HB3 := Aside0.mk (below_then HB1.out HB1.out.size hb3); clear ho hb3))
      (try simp only [Exit.inBlock, Exit.then]); refine bodyPost_ret (results_tmp3 rfl _ _ _) rfl ?_
      exact ⟨none, 0, rfl, Nat.le_refl _, Kd.C_nil _ _, fun ad h => (by cases h), HB3.out⟩
  · have hrv := HRV.out
    rw [if_pos (by simp)] at hrv
    clear HRV
    have HRV := Aside0.mk hrv
    clear hrv
    rw [HRV.out]
    go_enter Try.func79, Try.ntmps79
    go_wp2_with (first | (go_at_call 65; refine HP.out.mono ?_; clear HP; rintro e w1 ⟨X, dx, Y, dy, rfl, rfl, rfl, hX, hY, hb1⟩; have HX := Aside0.mk hX; have HY := Aside0.mk hY; have HB1 := Aside0.mk hb1; clear hX hY hb1))
    (try simp only [Exit.inBlock, Exit.then]); refine bodyPost_ret (results_tmp3 rfl _ _ _) rfl ?_
    exact ⟨none, 0, rfl, Nat.le_refl _, Kd.C_nil _ _, fun ad h => (by cases h), HB1.out⟩

end Go.Proofs.Ythhmjfjkbmmcaaa
/- clean.tidy: a map of texts, a row of rows. -/
namespace Go.Proofs.Ythhmjfjkbmmcaaa
open Go.RowKit Go.Proofs.YthhmjfjkbmmcaaaW.PrintWords Go.Proofs.YthhmjfjkbmmcaaaW.PrintLast Go.Proofs.YthhmjfjkbmmcaaaW.PrintMore
set_option linter.unusedVariables false
set_option linter.unusedSimpArgs false

def keyLit (xs : List Int) : Lit := .string (strOfNums (keyNums xs)).data.toList
theorem key4_inj {x y : Int} (hx : LitOk x) (hy : LitOk y) (h : key4 x = key4 y) : x = y := by
  unfold key4 at h
  unfold LitOk at hx hy
  simp only [List.cons.injEq, and_true] at h
  omega
theorem key4_range {x z : Int} (h : z ∈ key4 x) : 0 ≤ z ∧ z < 256 := by
  simp only [key4, List.mem_cons, List.not_mem_nil, or_false] at h
  omega
theorem keyNums_inj : ∀ {a b : List Int}, (∀ x ∈ a, LitOk x) → (∀ x ∈ b, LitOk x) → keyNums a = keyNums b → a = b
  | [], [], _, _, _ => rfl
  | [], y :: b, _, _, h => by have := congrArg List.length h; rw [keyNums_length, keyNums_length] at this; simp at this
  | x :: a, [], _, _, h => by have := congrArg List.length h; rw [keyNums_length, keyNums_length] at this; simp at this
  | x :: a, y :: b, ha, hb, h => by
    have h' : key4 x ++ keyNums a = key4 y ++ keyNums b := h
    obtain ⟨h1, h2⟩ := List.append_inj h' rfl
    rw [key4_inj (ha x (by simp)) (hb y (by simp)) h1, keyNums_inj (fun z hz => ha z (by simp [hz])) (fun z hz => hb z (by simp [hz])) h2]
theorem keyNums_range {xs : List Int} {z : Int} (h : z ∈ keyNums xs) : 0 ≤ z ∧ z < 256 := by
  unfold keyNums at h
  rw [List.mem_flatMap] at h
  obtain ⟨x, _, hz⟩ := h
  exact key4_range hz
theorem bytes_inj : ∀ {a b : List Int}, (∀ z ∈ a, 0 ≤ z ∧ z < 256) → (∀ z ∈ b, 0 ≤ z ∧ z < 256) → (a.map fun n => UInt8.ofNat n.toNat) = (b.map fun n => UInt8.ofNat n.toNat) → a = b
  | [], [], _, _, _ => rfl
  | [], y :: b, _, _, h => by simp at h
  | x :: a, [], _, _, h => by simp at h
  | x :: a, y :: b, ha, hb, h => by
    simp only [List.map_cons, List.cons.injEq] at h
    have hx := ha x (by simp)
    have hy := hb y (by simp)
    have h1 := congrArg UInt8.toNat h.1
    simp only [UInt8.toNat_ofNat'] at h1
    have : x = y := by omega
    rw [this, bytes_inj (fun z hz => ha z (by simp [hz])) (fun z hz => hb z (by simp [hz])) h.2]
theorem keyLit_inj {a b : List Int} (ga : Good a) (gb : Good b) (h : keyLit a = keyLit b) : a = b := by
  unfold keyLit at h
  injection h with h
  rw [strOfNums_data, strOfNums_data] at h
  exact keyNums_inj ga.2 gb.2 (bytes_inj (fun z hz => keyNums_range hz) (fun z hz => keyNums_range hz) h)

/-- Block b of w is a map in which just the keys of these clauses are, each once. -/
def MapIs (w : World) (b n : Nat) (S : List (List Int)) : Prop :=
  ∃ D : DataW Unit, Maps.IsMap D ∧ w.ownsMap Try.prog 9 (plainElem Try.prog 3) b n D ∧ ∀ xs, Good xs → D.atKey (keyLit xs) (.lit (.int .i64 0)) = .lit (.int .i64 (if xs ∈ S then 1 else 0))
theorem MapIs.made (w : World) : MapIs (w.alloc (.map #[] 0)) w.heap.size 0 [] :=
  ⟨.map [], Maps.isMap_empty, World.ownsMap_made w _ _ _, fun xs _ => by simp [DataW.atKey]⟩
theorem MapIs.kept {w w' : World} {b n : Nat} {S : List (List Int)} {row : Option Nat} (h : MapIs w b n S) (hg : w.grownBy w' row) (hne : some b ≠ row) : MapIs w' b n S := by
  obtain ⟨D, h1, h2, h3⟩ := h
  exact ⟨D, h1, h2.kept hg hne, h3⟩
theorem MapIs.mono {w : World} {b n n' : Nat} {S : List (List Int)} (h : MapIs w b n S) (hn : n ≤ n') : MapIs w b n' S := by
  obtain ⟨D, h1, h2, h3⟩ := h
  exact ⟨D, h1, h2.mono hn, h3⟩
theorem MapIs.lt {w : World} {b n : Nat} {S : List (List Int)} (h : MapIs w b n S) : b < w.heap.size := by
  obtain ⟨D, h1, h2, h3⟩ := h
  exact h2.lt
theorem MapIs.below {w w' : World} {b n : Nat} {S : List (List Int)} (h : MapIs w b n S) (hb : Below w.heap.size w w') : MapIs w' b n S := h.kept (grown_of_below hb none) (by simp)
theorem keyOf_key {xs : List Int} (g : Good xs) : keyOf Try.prog 9 (.string (strOfNums (keyNums xs))) = some (keyLit xs) :=
  WideMaps.keyOf_string_mk Try.underlying9 (by rw [strOfNums_size, keyNums_length]; have := g.1; unfold maxLen; omega)
theorem MapIs.look {w : World} {b n : Nat} {S : List (List Int)} (h : MapIs w b n S) {xs : List Int} (g : Good xs) :
    (Instr.lookup 75 (.map (some b)) (.string (strOfNums (keyNums xs))) false).run Try.prog w = .ok (.int .i64 (if xs ∈ S then 1 else 0)) w := by
  obtain ⟨D, h1, h2, h3⟩ := h
  obtain ⟨c, hrun, hat, _⟩ := h2.lookup_int (t := 75) (e := 3) (q := .i64) (key := .string (strOfNums (keyNums xs))) (kl := keyLit xs) (Maps.string_keyed Try.underlying9) Try.underlying75 Try.underlying3 (Try.zeroValue3 w) (keyOf_key g)
  rw [h3 xs g] at hat
  obtain ⟨_, hat⟩ := Lit.int.inj (DataW.lit.inj hat)
  rw [hrun, hat]
theorem MapIs.upd {w : World} {b n : Nat} {S : List (List Int)} (h : MapIs w b n S) {xs : List Int} (g : Good xs) (hn : n < 1099511627776 * 1024) :
    ∃ w', (Instr.mapUpdate 75 (.map (some b)) (.string (strOfNums (keyNums xs))) (.int .i64 1)).run Try.prog w = .ok () w' ∧ MapIs w' b (n + 1) (S ++ [xs]) ∧ w.grownBy w' (some b) := by
  obtain ⟨D, h1, h2, h3⟩ := h
  obtain ⟨w', hrun, hown, hg⟩ := h2.update (t := 75) (e := 3) (Maps.string_keyed Try.underlying9) Try.underlying75 (by unfold maxLen; omega) (keyOf_key g) (plainElem_int (H := Unit) Try.underlying3 (a := 1) (by decide))
  refine ⟨w', hrun, ⟨_, h1.put _ _, hown, fun ys gy => ?_⟩, hg⟩
  by_cases he : ys = xs
  · subst he
    rw [Maps.atKey_put_same (k := keyLit ys) h1 (show WideAt.IsKeyLit (.string _) from trivial)]
    simp
  · rw [Maps.atKey_put_other (fun hk => he (keyLit_inj gy g hk)), h3 ys gy]
    simp [he]

/-- What a row of whole numbers is read by: its own block alone. -/
theorem F_block {w : World} {A : Option Addr} {n : Nat} {xs : List Int} (h : (Kd.int .i64).C w A n xs) : Kd.F (Kd.int .i64) w (fun k => ∃ ad, A = some ad ∧ k = ad.block) A n xs := by
  intro W' hW
  refine ⟨h.1, h.2.1, fun hn => ?_⟩
  obtain ⟨ad, e, hc⟩ := h.2.2 hn
  refine ⟨ad, e, fun j p hj => ?_⟩
  obtain ⟨c, hl, hk, hcc⟩ := hc j p hj
  refine ⟨c, hl, hk, fun i u hu => ?_⟩
  have h1 := hcc i u hu
  have hb : (ad.add (j * (Kd.int .i64).sz + i)).block = ad.block := by unfold Addr.add; split <;> rfl
  have hlt := World.block_lt_of_cell? w _ h1
  rw [hb] at hlt
  rw [← h1]
  exact World.cell?_of_block (by rw [hb]; exact hW ad.block ⟨ad, e, rfl⟩ hlt)

def tidyStep (out : List (List Int)) (c : List Int) : List (List Int) := if (nrm c).2 then (if (nrm c).1 ∈ out then out else out ++ [(nrm c).1]) else out
/-- Clauses in their normal forms, each once. -/
def tidyv (ls : List (List Int)) : List (List Int) := ls.foldl tidyStep []
theorem tidyv_take {ls : List (List Int)} {i : Nat} {l : List Int} (h : ls[i]? = some l) : tidyv (ls.take (i + 1)) = tidyStep (tidyv (ls.take i)) l := by
  unfold tidyv
  rw [List.take_add_one, h]
  simp
theorem tidyStep_length (out : List (List Int)) (c : List Int) : (tidyStep out c).length ≤ out.length + 1 := by
  unfold tidyStep
  split
  · split
    · omega
    · simp
  · omega
theorem tidyv_length (ls : List (List Int)) : (tidyv ls).length ≤ ls.length := by
  have h : ∀ i, i ≤ ls.length → (tidyv (ls.take i)).length ≤ i := by
    intro i
    induction i with
    | zero => intro _; simp [tidyv]
    | succ i ih =>
      intro hi
      rw [tidyv_take (List.getElem?_eq_getElem (by omega))]
      have := tidyStep_length (tidyv (ls.take i)) (ls[i]'(by omega))
      have := ih (by omega)
      omega
  have := h ls.length (Nat.le_refl _)
  rwa [List.take_length] at this
theorem nrm_good {c : List Int} (g : Good c) : Good (nrm c).1 := ⟨Nat.le_trans (nrm_length c) g.1, fun x hx => g.2 x (nrm_mem hx)⟩
theorem info43 : (Try.prog.info? 43).map (fun i => (i.zero, i.size, i.bytes)) = some (some (.slice none 0 0), 1, 24) := by kernel_rfl

abbrev kClause : Kd (List Int) := Kd.slice 3 (Kd.int .i64)

set_option maxRecDepth 100000 in
set_option maxHeartbeats 4000000 in
theorem tidy_calls (A : Option Addr) (c : Nat) (ls : List (List Int)) (w : World) (hr : Kd.C kClause w A ls.length ls) (hg : ∀ l ∈ ls, Good l) (hmax : ls.length ≤ 4398046511104) :
    Calls Try.prog 22 #[.slice A ls.length c] w fun e w' => ∃ v, e = .returned v ∧ Kd.V kClause 43 w' w.heap.size (fun k_ => (w.heap.size ≤ k_)) v (tidyv ls) ∧ Below w.heap.size w w' := by
  have HR := Aside0.mk hr
  have HG := Aside0.mk hg
  obtain ⟨n, hn⟩ : ∃ n, n = ls.length := ⟨_, rfl⟩
  have HN := Aside0.mk hn
  rw [← hn] at hmax HR ⊢
  clear hr hg hn
  have hmk : ∀ w : World, (Instr.makeMap 75 none).run Try.prog w = .ok (.map (some w.heap.size)) (w.alloc (.map #[] 0)) := fun w => run_makeMap _ w
  go_enter Try.func22, Try.ntmps22
  go_wp2
  obtain ⟨b, hb⟩ : ∃ b, b = w.heap.size := ⟨_, rfl⟩
  obtain ⟨w1, hw1⟩ : ∃ w1, w1 = w.alloc (.map #[] 0) := ⟨_, rfl⟩
  have HM := Aside0.mk (show MapIs w1 b 0 [] by rw [hw1, hb]; exact MapIs.made w)
  have HB := Aside0.mk (show Below w.heap.size w w1 by rw [hw1]; exact below_alloc (Below.refl _ _) _)
  have HBB := Aside0.mk hb
  rw [← hw1, ← hb]
  clear hw1 hb
  go_loopg [4, 6, 7, 8, 12] (n + 1) (fun kq v4 v6 v7 v8 v12 w' => ∃ i : Nat, v12 = .int .i64 (i : Int) ∧ Aside0 (Kd.N kClause 43 w' w.heap.size (fun k => w.heap.size ≤ k ∧ k ≠ b) v4 (tidyv (ls.take i))) ∧ Aside0 (MapIs w' b i (tidyv (ls.take i))) ∧ i ≤ n ∧ Aside0 (n < kq + i) ∧ Aside0 (Below w.heap.size w w'))
  case atStart => exact ⟨0, rfl, ⟨Kd.N_nil _ _ _ _ _⟩, HM, Nat.zero_le _, ⟨by omega⟩, HB⟩
  case round =>
    clear HM HB
    obtain ⟨i, rfl, HO, HM, hin, HK, HB⟩ := hrel
    cases gk with
    | zero => exact absurd HK.out (by omega)
    | succ k =>
      by_cases hlt : i < n
      · obtain ⟨ad, A0, c0, l, e, hl, hc, hlc, hrl⟩ := at_rows (Kd.C_below HR.out HB.out) i (by have := HN.out; omega)
        cases e
        have HL := Aside0.mk hrl
        have hgl := HG.out l (List.mem_of_getElem? hl)
        have HGL := Aside0.mk hgl
        have HT := Aside0.mk (tidyv_take hl)
        obtain ⟨m, hm⟩ : ∃ m, m = l.length := ⟨_, rfl⟩
        have HNC := Aside0.mk (show Calls Try.prog 43 #[.slice A0 m c0] wr _ by rw [hm]; exact Normal_calls A0 c0 l wr hrl hgl)
        have hgn := nrm_good hgl
        have hts := tidyStep.eq_1 (tidyv (ls.take i)) l
        rcases hq : nrm l with ⟨y, ok⟩
        rw [hq] at HNC hgn hts
        rw [← hm] at hc
        simp only at HNC hgn hts
        have HY := Aside0.mk hgn
        obtain ⟨m2, hm2⟩ : ∃ m2, m2 = y.length := ⟨_, rfl⟩
        rw [← hm2] at HNC
        clear hl hrl hgl hgn hq hm
        cases ok with
        | false =>
          have HS := Aside0.mk (HT.out.trans (show _ = tidyv (ls.take i) from hts))
          clear hts hm2
          go_wp2_with (go_at_call 43; refine HNC.out.mono ?_; rintro e w2 ⟨B, d, rfl, rfl, hC, hfr, hb2⟩; have HB2 := Aside0.mk hb2; clear hC hfr hb2)
          go_roundg k
          case measure => omega
          case rel => exact ⟨i + 1, by go_num, ⟨by rw [HS.out]; exact Kd.N_below HO.out HB2.out⟩, ⟨by rw [HS.out]; exact (HM.out.below HB2.out).mono (by omega)⟩, by omega, ⟨by have := HK.out; omega⟩, ⟨below_then HB.out HB.out.size HB2.out⟩⟩
        | true =>
          obtain ⟨s, hs⟩ : ∃ s, s = strOfNums (keyNums y) := ⟨_, rfl⟩
          have HKY : Aside0 (∀ (W : World) (B : Option Addr) (d : Nat), Kd.C (Kd.int .i64) W B m2 y → Calls Try.prog 44 #[.slice B m2 d] W fun e w' => e = .returned (.string s) ∧ Below W.heap.size W w') := ⟨fun W B d h => by rw [hm2] at h ⊢; rw [hs]; exact key_calls B d y W h HY.out⟩
          by_cases hin2 : y ∈ tidyv (ls.take i)
          · have HS := Aside0.mk (HT.out.trans (show _ = tidyv (ls.take i) from hts.trans (by rw [if_pos rfl, if_pos hin2])))
            have HLK : Aside0 (∀ W : World, MapIs W b i (tidyv (ls.take i)) → (Instr.lookup 75 (.map (some b)) (.string s) false).run Try.prog W = .ok (.int .i64 1) W) := ⟨fun W h => by have := h.look HY.out; rw [if_pos hin2, ← hs] at this; exact this⟩
            clear hts hm2 hin2 hs
            go_wp2_with (first | (go_at_call 43; refine HNC.out.mono ?_; rintro e w2 ⟨B, d, rfl, rfl, hC, hfr, hb2⟩; have HB2 := Aside0.mk hb2; have HC := Aside0.mk hC; have HM2 := Aside0.mk (HM.out.below hb2); clear hC hfr hb2) | (go_at_call 44; refine (HKY.out _ _ _ HC.out).mono ?_; rintro e w3 ⟨rfl, hb3⟩; have hlk := HLK.out _ (HM2.out.below hb3); have HB3 := Aside0.mk (below_then HB2.out HB2.out.size hb3); clear hb3))
            go_roundg k
            case measure => omega
            case rel => exact ⟨i + 1, by go_num, ⟨by rw [HS.out]; exact Kd.N_below HO.out HB3.out⟩, ⟨by rw [HS.out]; exact (HM.out.below HB3.out).mono (by omega)⟩, by omega, ⟨by have := HK.out; omega⟩, ⟨below_then HB.out HB.out.size HB3.out⟩⟩
          · have HS := Aside0.mk (HT.out.trans (show _ = tidyv (ls.take i) ++ [y] from hts.trans (by rw [if_pos rfl, if_neg hin2])))
            have HLK : Aside0 (∀ W : World, MapIs W b i (tidyv (ls.take i)) → (Instr.lookup 75 (.map (some b)) (.string s) false).run Try.prog W = .ok (.int .i64 0) W) := ⟨fun W h => by have := h.look HY.out; rw [if_neg hin2, ← hs] at this; exact this⟩
            have HUP : Aside0 (∀ W : World, MapIs W b i (tidyv (ls.take i)) → ∃ w', (Instr.mapUpdate 75 (.map (some b)) (.string s) (.int .i64 1)).run Try.prog W = .ok () w' ∧ MapIs w' b (i + 1) (tidyv (ls.take i) ++ [y]) ∧ W.grownBy w' (some b)) := ⟨fun W h => by rw [hs]; exact h.upd HY.out (by omega)⟩
            have HLEN := Aside0.mk (show (tidyv (ls.take i)).length ≤ i from Nat.le_trans (tidyv_length _) (by rw [List.length_take]; omega))
            have HM2E := Aside0.mk hm2
            clear hts hm2 hin2 hs
            go_wp2_with (first | (go_at_call 43; refine HNC.out.mono ?_; rintro e w2 ⟨B, d, rfl, rfl, hC, hfr, hb2⟩; have HB2 := Aside0.mk hb2; have HF := Aside0.mk (F_block hC); have HC := Aside0.mk hC; have HFR := Aside0.mk hfr; have HM2 := Aside0.mk (HM.out.below hb2); clear hC hfr hb2) | (go_at_call 44; first | (refine (HKY.out _ _ _ HC.out).mono ?_; clear HC; rintro e w3 ⟨rfl, hb3⟩; have hlk := HLK.out _ (HM2.out.below hb3); have HM3 := Aside0.mk (HM2.out.below hb3); have HF3 := Aside0.mk (Kd.F_below HF.out hb3); have HB3 := Aside0.mk (below_then HB2.out HB2.out.size hb3); clear hb3) | (refine (HKY.out _ _ _ (Kd.F_now HF3.out)).mono ?_; rintro e w4 ⟨rfl, hb4⟩; have hlk2 := HLK.out _ (HM3.out.below hb4); obtain ⟨w5, hup, hm5, hg5⟩ := HUP.out _ (HM3.out.below hb4); have HM5 := Aside0.mk hm5; have HB4 := Aside0.mk (below_then HB3.out HB3.out.size hb4); have HF5 := Aside0.mk (Kd.F_grown (Kd.F_below HF3.out hb4) hg5 (by rintro k ⟨ad, e1, e2⟩ e3; have h1 := HFR.out ad e1; have h2 := HM.out.lt; injection e3 with e3; omega)); have HO5 := Aside0.mk (Kd.N_grown (Kd.N_below HO.out HB4.out) hg5 (by rintro k ⟨_, e1⟩ e2; injection e2 with e2; exact e1 e2)); have HB5 := Aside0.mk ((below_then HB.out HB.out.size HB4.out).grown hg5 (below_then HB.out HB.out.size HB4.out).size (by rintro k e1; injection e1 with e1; have := HBB.out; omega)); have HSZ5 := Aside0.mk (Nat.le_trans HB4.out.size hg5.size); clear hm5 hg5 hb4)) | (at_builtin; refine Kd.N_append kClause w.heap.size rfl (.tmp 35) (.tmp 37) 22 43 (.slice none 0 0) 24 rfl Try.underlying22 info43 rfl (by decide) (by omega) _ _ y [.slice B d d] _ (fun k => ∃ ad, B = some ad ∧ k = ad.block) rfl rfl (by rw [HM2E.out] at HF5 ⊢; exact Kd.FK_slice_mk (Nat.le_refl _) HF5.out) (by rintro k ⟨ad, e1, rfl⟩; have h1 := HFR.out ad e1; have h2 := HM.out.lt; have h3 := HB.out.size; exact ⟨⟨by omega, by omega⟩, fun e2 => by have := Kd.N_lt HO.out _ e2.symm; omega⟩) (fun k hk => ⟨by have := HB5.out.size; omega, by have := HM5.out.lt; omega⟩) HO5.out HB5.out HB5.out.size (by have := HLEN.out; omega) ?_; intro v1 w6 hN hb6 hg6 hat6; have HO6 := Aside0.mk hN; have HB6 := Aside0.mk hb6; have HM6 := Aside0.mk (HM5.out.kept hg6 (fun e => (HO5.out.1 b e.symm).2 rfl)); clear hN hb6 hg6 hat6))
            go_roundg k
            case measure => omega
            case rel => exact ⟨i + 1, by go_num, ⟨by rw [HS.out]; exact HO6.out⟩, ⟨by rw [HS.out]; exact HM6.out⟩, by omega, ⟨by have := HK.out; omega⟩, HB6⟩
      · obtain rfl : i = n := by omega
        go_wp2
        go_ret
        have hq := HO.out
        rw [show ls.take i = ls by rw [HN.out, List.take_length]] at hq
        exact ⟨_, rfl, Kd.V_mono (Kd.N_V hq) (fun k hk => hk.1), HB.out⟩

end Go.Proofs.Ythhmjfjkbmmcaaa
/- slices.DeleteFunc of a literal's negation (the shelf's proof, laid by hand); slices.IndexFunc, ContainsFunc over clauses. -/
namespace Go.Proofs.Ythhmjfjkbmmcaaa
open Go.RowKit Go.Proofs.YthhmjfjkbmmcaaaW.PrintWords Go.Proofs.YthhmjfjkbmmcaaaW.PrintLast Go.Proofs.YthhmjfjkbmmcaaaW.PrintMore
open Go.Shelf Go.Sort
set_option linter.unusedVariables false
set_option linter.unusedSimpArgs false

def delRen : Go.Shelf.Ren := ⟨fun | 6 => 63 | 10 => 55 | n => n, fun | 22 => 43 | 23 => 3 | 25 => 70 | n => n, fun | n => n⟩
theorem delLays : Go.Proofs.SlLaysH.n10 Try.prog delRen := {
  mixed := by kernel_rfl
  f6 := ⟨Try.f63.name, by decide, Try.func63.trans (congrArg some (by kernel_rfl))⟩
  f10 := ⟨Try.f55.name, by decide, Try.func55.trans (congrArg some (by kernel_rfl))⟩
  t0 := Try.underlying0
  a0 := Try.isAgg0
  z0 := Try.sizeOf0
  v0 := Try.zeroValue0
  t3 := Try.underlying3
  a3 := Try.isAgg3
  z3 := Try.sizeOf3
  v3 := Try.zeroValue3
  t4 := Try.underlying4
  a4 := Try.isAgg4
  z4 := Try.sizeOf4
  v4 := Try.zeroValue4
  t22 := Try.underlying43
  a22 := Try.isAgg43
  z22 := Try.sizeOf43
  v22 := Try.zeroValue43
  a23 := Try.isAgg3
  z23 := Try.sizeOf3
  t25 := Try.underlying70
  a25 := Try.isAgg70
  z25 := Try.sizeOf70
  v25 := Try.zeroValue70 }

theorem clo56_calls (b : Nat) (x y : Int) (w : World) (hc : w.cell? ⟨b, 0, none⟩ = some (.int .i64 x)) (hx : LitOk x) :
    Calls Try.prog 56 #[.int .i64 y, .pointer (some ⟨b, 0, none⟩)] w fun e w' => e = .returned (.bool (y == -x)) ∧ w = w' := by
  have hb : -262144 ≤ x ∧ x ≤ 262144 := hx.2
  go_enter Try.func56, Try.ntmps56
  go_wp2
  go_ret
  exact ⟨rfl, rfl⟩

def delv (xs : List Int) (x : Int) : List Int := xs.filter fun y => !(y == -x)
theorem delete_calls (g cap n base b : Nat) (xs : List Int) (x : Int) (w : World) (ho : w.ownsRow base 3 1 (.slice (some ⟨g, 0, none⟩) n cap) n (nums .i64 xs)) (hn : n ≤ 1099511627776) (hx : LitOk x) (hc : w.cell? ⟨b, 0, none⟩ = some (.int .i64 x)) (hne : b ≠ g) :
    Calls Try.prog 55 #[.slice (some ⟨g, 0, none⟩) n cap, .func (.func 56) #[] #[.pointer (some ⟨b, 0, none⟩)]] w fun e w' =>
      e = .returned (.slice (some ⟨g, 0, none⟩) (delv xs x).length cap) ∧ w'.ownsRow base 3 1 (.slice (some ⟨g, 0, none⟩) (delv xs x).length cap) (delv xs x).length (nums .i64 (delv xs x)) ∧ w.grownBy w' (some g) := by
  have hl : xs.length = n := by have := ho.1; rw [nums_length] at this; omega
  obtain ⟨g', cap', hv, hbg, hlt, hnc, hcm, _, hH⟩ := Lib.holds_of_ownsRow ho (by simp)
  injection hv with hv1 _ hv3
  injection hv1 with hv1
  injection hv1 with hv1
  subst hv1; subst hv3
  have hsz : xs.toArray.size = n := by simpa using hl
  have hbl : b < w.heap.size := World.block_lt_of_cell? w _ hc
  have eg : ∀ args w, (callFunc 56 args).run Try.prog w = .ok (.enter 56 args) w := enters_of Try.func56 (by kernel_rfl) rfl
  have hp : PredAt Try.prog 56 #[.pointer (some ⟨b, 0, none⟩)] (Value.int .i64) (fun y => y == -x) w := fun W y hW =>
    (clo56_calls b x y W (pw_cell_below hW hc) hx).mono fun e w' ⟨h1, h2⟩ => ⟨h1, 0, h2.symm⟩
  have hpo : PredOver Try.prog 56 #[.pointer (some ⟨b, 0, none⟩)] (Value.int .i64) (fun y => y == -x) g 0 xs.toArray.size w := fun q os dk y _ => by
    refine (clo56_calls b x y _ ?_ hx).mono fun e w' ⟨h1, h2⟩ => ⟨h1, 0, h2.symm⟩
    unfold sortWorld
    rw [World.cell?_of_block (w := putRow (Value.int .i64) (Sort.ahead w q) g 0 dk) (by exact heap_grow_old _ _ (by simpa [putRow, mapBlock, Sort.ahead] using hbl))]
    rw [cell?_putRow_other _ _ _ _ _ _ (Or.inl hne)]
    exact hc
  have := AnyE.slices_DeleteFunc delLays (Value.int .i64) (fun _ => rfl) (fun y => y == -x) 56 #[.pointer (some ⟨b, 0, none⟩)] eg 0 Try.zeroValue3 g 0 cap xs.toArray w hp hpo hH (by omega) (by omega)
  rw [hsz] at this
  refine this.mono ?_
  rintro e w' ⟨rfl, q, rfl⟩
  have hd : (xs.toArray.toList.filter fun y => !(y == -x)) = delv xs x := rfl
  rw [hd]
  have hle : (delv xs x).length ≤ n := by rw [← hl]; exact List.length_filter_le _ _
  have hrow := Lib.ownsRow_putRow (q := q) (k := (delv xs x).length) (ys := delv xs x ++ List.replicate (n - (delv xs x).length) 0) ho (by simp; omega) (by omega)
  rw [List.take_append_of_le_length (Nat.le_refl _), List.take_length] at hrow
  refine ⟨rfl, hrow, ⟨rfl, rfl, rfl, by simp [putRow, mapBlock, Sort.ahead], fun k hk hne => ?_⟩⟩
  have : g ≠ k := fun e => hne (by rw [e])
  simp [putRow, mapBlock, Sort.ahead, Array.getElem?_modify, this]

/-- What a predicate over clauses answers at each clause of a row, in every later world. -/
def PredRows (P : Program) (g : Nat) (lb : Array Value) (ls : List (List Int)) (p : List Int → Bool) (w : World) : Prop :=
  ∀ (l : List Int), l ∈ ls → ∀ W A c, Below w.heap.size w W → l.length ≤ c → Kd.C (Kd.int .i64) W A l.length l → Calls P g (#[.slice A l.length c] ++ lb) W fun e w' => e = .returned (.bool (p l)) ∧ Below W.heap.size W w'
def hitAt (p : List Int → Bool) (ls : List (List Int)) : Nat → Bool := fun i => p (ls.getD i [])

set_option maxHeartbeats 2000000 in
theorem indexFunc_53 (g : Nat) (lb : Array Value) (eg : ∀ args w, (callFunc g args).run Try.prog w = .ok (.enter g args) w)
    (A : Option Addr) (c : Nat) (ls : List (List Int)) (p : List Int → Bool) (w : World) (hr : Kd.C kClause w A ls.length ls) (hp : PredRows Try.prog g lb ls p w) :
    Calls Try.prog 53 #[.slice A ls.length c, .func (.func g) #[] lb] w fun e w' => e = .returned (.int .i64 (firstIdx (hitAt p ls) ls.length)) ∧ Below w.heap.size w w' := by
  have hmax : ls.length ≤ 9223372036854775807 := hr.2.1
  have HP := Aside0.mk hp
  have HR := Aside0.mk hr
  obtain ⟨n, hn⟩ : ∃ n, n = ls.length := ⟨_, rfl⟩
  have HN := Aside0.mk hn
  rw [← hn] at hmax HR ⊢
  obtain ⟨q, hq⟩ : ∃ q, q = hitAt p ls := ⟨_, rfl⟩
  have HQ := Aside0.mk hq
  rw [← hq]
  have H0 := Aside0.mk (show firstFrom q n (n + 1) 0 = firstIdx q n from rfl)
  clear hp hr hn hq
  go_enter Try.func53, Try.ntmps53
  go_wp2
  go_loopg [5, 8] (n + 1) (fun kq v5 v8 w' => ∃ i : Nat, v8 = .int .i64 (i : Int) ∧ Aside0 (firstFrom q n kq i = firstIdx q n) ∧ i ≤ n ∧ Aside0 (n < kq + i) ∧ Aside0 (Below w.heap.size w w'))
  case atStart => exact ⟨0, rfl, H0, Nat.zero_le _, ⟨by omega⟩, ⟨Below.refl _ _⟩⟩
  case round =>
    clear H0
    obtain ⟨i, rfl, HF, hi, HK, HB⟩ := hrel
    cases gk with
    | zero => exact absurd HK.out (by omega)
    | succ k =>
      have hf := HF.out
      clear HF
      simp only [firstFrom] at hf
      by_cases hlt : i < n
      · rw [if_pos hlt] at hf
        obtain ⟨ad, A0, c0, l, e, hl, hcell, hlc, hC⟩ := at_rows (Kd.C_below HR.out HB.out) i hlt
        cases e
        have hqi : q i = p l := by rw [HQ.out]; simp [hitAt, List.getD_eq_getElem?_getD, hl]
        rw [hqi] at hf
        have HF := Aside0.mk hf
        have HCALL := Aside0.mk (HP.out l (List.mem_of_getElem? hl) wr A0 c0 HB.out hlc hC)
        generalize l.length = m at hcell HCALL
        clear hf hl hlc hC hqi
        have hd : decide ((i : Int) < (n : Int)) = true := decide_eq_true (by omega)
        rcases hpl : p l with _ | _
        · have hf := HF.out
          rw [hpl, if_neg (by simp)] at hf
          rw [hpl] at HCALL
          clear HF
          have HF := Aside0.mk hf
          clear hf hpl
          go_wp2
          refine HCALL.out.mono ?_
          rintro e w1 ⟨rfl, hb1⟩
          have HB1 := Aside0.mk (below_then HB.out HB.out.size hb1)
          clear hb1
          go_wp2
          go_roundg k
          case measure => omega
          case rel => exact ⟨i + 1, by go_num, HF, by omega, ⟨by have := HK.out; omega⟩, HB1⟩
        · have hf := HF.out
          rw [hpl, if_pos rfl] at hf
          rw [hpl] at HCALL
          clear HF
          have HF := Aside0.mk hf
          clear hf hpl
          go_wp2
          refine HCALL.out.mono ?_
          rintro e w1 ⟨rfl, hb1⟩
          have HB1 := Aside0.mk (below_then HB.out HB.out.size hb1)
          clear hb1
          go_wp2
          go_ret
          exact ⟨by rw [← HF.out]; rfl, HB1.out⟩
      · rw [if_neg hlt] at hf
        have HF := Aside0.mk hf
        have hd : decide ((i : Int) < (n : Int)) = false := decide_eq_false (by omega)
        clear hf
        go_wp2
        go_ret
        exact ⟨by rw [← HF.out]; rfl, HB.out⟩

theorem contains_51 (g : Nat) (lb : Array Value) (eg : ∀ args w, (callFunc g args).run Try.prog w = .ok (.enter g args) w)
    (A : Option Addr) (c : Nat) (ls : List (List Int)) (p : List Int → Bool) (w : World) (hr : Kd.C kClause w A ls.length ls) (hp : PredRows Try.prog g lb ls p w) :
    Calls Try.prog 51 #[.slice A ls.length c, .func (.func g) #[] lb] w fun e w' => e = .returned (.bool (ls.any p)) ∧ Below w.heap.size w w' := by
  have HP := Aside0.mk hp
  have HR := Aside0.mk hr
  have HE : decide (firstIdx (hitAt p ls) ls.length ≥ 0) = ls.any p := by
    rw [Bool.eq_iff_iff, firstIdx, firstFrom_any _ _ _ _ (by omega), List.any_eq_true]
    constructor
    · rintro ⟨j, _, h2, h3⟩
      exact ⟨_, List.getElem_mem h2, by simpa [hitAt, List.getD_eq_getElem?_getD, List.getElem?_eq_getElem h2] using h3⟩
    · rintro ⟨x, hx, hf⟩
      obtain ⟨j, hj, rfl⟩ := List.mem_iff_getElem.1 hx
      exact ⟨j, Nat.zero_le _, hj, by simpa [hitAt, List.getD_eq_getElem?_getD, List.getElem?_eq_getElem hj] using hf⟩
  have HE := Aside0.mk HE
  clear hp hr
  go_enter Try.func51, Try.ntmps51
  go_wp2_with (go_at_call 53; refine (indexFunc_53 g lb eg A c ls p _ HR.out HP.out).mono ?_; rintro e w4 ⟨rfl, hb4⟩; have HB4 := Aside0.mk hb4; clear hb4)
  go_ret
  exact ⟨by rw [← HE.out]; rfl, HB4.out⟩

end Go.Proofs.Ythhmjfjkbmmcaaa
/- clean.subsume. -/
namespace Go.Proofs.Ythhmjfjkbmmcaaa
open Go.RowKit Go.Proofs.YthhmjfjkbmmcaaaW.PrintWords Go.Proofs.YthhmjfjkbmmcaaaW.PrintLast Go.Proofs.YthhmjfjkbmmcaaaW.PrintMore
set_option linter.unusedVariables false
set_option linter.unusedSimpArgs false

/-- A clause of a row: where it lies, and by what it is read. -/
theorem at_rowsF {w : World} {ok : Nat → Prop} {A : Option Addr} {n : Nat} {ls : List (List Int)} (h : Kd.F kClause w ok A n ls) (i : Nat) (hi : i < n) :
    ∃ ad A0 c0 l, A = some ad ∧ ls[i]? = some l ∧ w.cell? (ad.add i) = some (.slice A0 l.length c0) ∧ l.length ≤ c0 ∧ Kd.F (Kd.int .i64) w ok A0 l.length l := by
  obtain ⟨ad, c, rfl, hcl, hK, hcc, _⟩ := Kd.F_get h ([] : List Int) (i : Int) (by omega) (by omega)
  rw [Int.toNat_natCast] at hK hcc
  have hl := Kd.F_len h
  have hg : ls[i]? = some (ls.getD i []) := by rw [List.getD_eq_getElem?_getD, List.getElem?_eq_getElem (by omega)]; rfl
  obtain ⟨A0, c0, rfl, hl0, hF⟩ := Kd.FK_slice_open hK
  have hc : ∀ j u, [Value.slice A0 (ls.getD i []).length c0][j]? = some u → w.cell? (ad.add (i * 1 + j)) = some u := hcc
  exact ⟨ad, A0, c0, _, rfl, hg, by have hq := hc 0 _ rfl; rwa [Nat.mul_one, Nat.add_zero] at hq, hl0, hF⟩

theorem lsubs_err (a b : List Int) : (lsubs a b).2 = 0 ∨ (lsubs a b).2 = 10 := by
  unfold lsubs
  split
  · exact (@pairv_mem a b).2.2.2.2
  · exact .inl rfl
/-- Does d say more than c. -/
def lessv (c d : List Int) : Bool := decide (d.length < c.length) && ((lsubs d c).2 == 0) && (lsubs d c).1

set_option maxHeartbeats 2000000 in
theorem clo57_calls (b : Nat) (A B : Option Addr) (cd cc : Nat) (c d : List Int) (w : World) (hd : Kd.C (Kd.int .i64) w A d.length d) (hc : Kd.C (Kd.int .i64) w B c.length c) (gd : Good d) (gc : Good c) (hb : w.cell? ⟨b, 0, none⟩ = some (.slice B c.length cc)) :
    Calls Try.prog 57 #[.slice A d.length cd, .pointer (some ⟨b, 0, none⟩)] w fun e w' => e = .returned (.bool (lessv c d)) ∧ Below w.heap.size w w' := by
  have hL := lsubs_calls A B cd cc d c w hd hc gd gc
  have hR := lessv.eq_1 c d
  have he := lsubs_err d c
  have hlt : c.length < 4294967296 := by have := gc.1; omega
  have hlt2 : d.length < 4294967296 := by have := gd.1; omega
  have hbl := World.block_lt_of_cell? w _ hb
  rcases hq : lsubs d c with ⟨o, e⟩
  rw [hq] at hL hR he
  simp only at hL hR he
  obtain ⟨n, en⟩ : ∃ n, n = c.length := ⟨_, rfl⟩
  obtain ⟨m, em⟩ : ∃ m, m = d.length := ⟨_, rfl⟩
  rw [← en] at hL hR hb hlt
  rw [← em] at hL hR hlt2 ⊢
  have HL := Aside0.mk hL
  have HR := Aside0.mk hR
  have HBX := Aside0.mk (show ∀ W, Below w.heap.size w W → W.cell? ⟨b, 0, none⟩ = some (.slice B n cc) from fun W hW => pw_cell_below hW hb)
  clear hd hc gd gc hL hR hq en em hbl
  rw [HR.out]
  rcases he with rfl | rfl
  · by_cases hmn : m < n
    · have hdt : decide ((m : Int) < (n : Int)) = true := decide_eq_true (by omega)
      have hdn : decide (m < n) = true := decide_eq_true hmn
      rw [hdn]
      go_enter Try.func57, Try.ntmps57
      go_wp2_with (go_at_call 58; refine HL.out.mono ?_; rintro e w1 ⟨rfl, hb1⟩; have hbx := HBX.out _ hb1; have HB1 := Aside0.mk hb1; clear hb1)
      go_ret
      exact ⟨by cases o <;> rfl, HB1.out⟩
    · have hdt : decide ((m : Int) < (n : Int)) = false := decide_eq_false (by omega)
      have hdn : decide (m < n) = false := decide_eq_false hmn
      rw [hdn]
      go_enter Try.func57, Try.ntmps57
      go_wp2_with (go_at_call 58; refine HL.out.mono ?_; rintro e w1 ⟨rfl, hb1⟩; have hbx := HBX.out _ hb1; have HB1 := Aside0.mk hb1; clear hb1)
      go_ret
      exact ⟨by cases o <;> rfl, HB1.out⟩
  · by_cases hmn : m < n
    · have hdt : decide ((m : Int) < (n : Int)) = true := decide_eq_true (by omega)
      have hdn : decide (m < n) = true := decide_eq_true hmn
      rw [hdn]
      go_enter Try.func57, Try.ntmps57
      go_wp2_with (go_at_call 58; refine HL.out.mono ?_; rintro e w1 ⟨rfl, hb1⟩; have hbx := HBX.out _ hb1; have HB1 := Aside0.mk hb1; clear hb1)
      go_ret
      exact ⟨by cases o <;> rfl, HB1.out⟩
    · have hdt : decide ((m : Int) < (n : Int)) = false := decide_eq_false (by omega)
      have hdn : decide (m < n) = false := decide_eq_false hmn
      rw [hdn]
      go_enter Try.func57, Try.ntmps57
      go_wp2_with (go_at_call 58; refine HL.out.mono ?_; rintro e w1 ⟨rfl, hb1⟩; have hbx := HBX.out _ hb1; have HB1 := Aside0.mk hb1; clear hb1)
      go_ret
      exact ⟨by cases o <;> rfl, HB1.out⟩

/-- Clauses of which no other one says more. -/
def subv (ls : List (List Int)) : List (List Int) := ls.filter fun c => !ls.any (lessv c)
def subT (ls : List (List Int)) (i : Nat) : List (List Int) := (ls.take i).filter fun c => !ls.any (lessv c)
theorem subT_take {ls : List (List Int)} {i : Nat} {c : List Int} (h : ls[i]? = some c) : subT ls (i + 1) = if ls.any (lessv c) then subT ls i else subT ls i ++ [c] := by
  unfold subT
  rw [List.take_add_one, h]
  by_cases hb : ls.any (lessv c) = true
  · rw [if_pos hb]; simp [hb]
  · rw [if_neg hb]
    have hb' : ls.any (lessv c) = false := by simpa using hb
    simp [hb']
theorem subT_length (ls : List (List Int)) (i : Nat) : (subT ls i).length ≤ i := by
  unfold subT
  refine Nat.le_trans (List.length_filter_le _ _) ?_
  rw [List.length_take]; omega

set_option maxRecDepth 100000 in
set_option maxHeartbeats 4000000 in
theorem subsume_calls (P : Nat → Prop) (A : Option Addr) (c : Nat) (ls : List (List Int)) (w : World) (hs : Kd.F kClause w P A ls.length ls) (hg : ∀ l ∈ ls, Good l) (hmax : ls.length ≤ 4398046511104) :
    Calls Try.prog 31 #[.slice A ls.length c] w fun e w' => ∃ v, e = .returned v ∧ Kd.V kClause 43 w' w.heap.size (fun k_ => P k_ ∨ w.heap.size ≤ k_) v (subv ls) ∧ Below w.heap.size w w' := by
  have HF := Aside0.mk (Kd.F_bound hs)
  have HG := Aside0.mk hg
  have e57 : ∀ args w, (callFunc 57 args).run Try.prog w = .ok (.enter 57 args) w := enters_of Try.func57 (by kernel_rfl) rfl
  obtain ⟨n, hn⟩ : ∃ n, n = ls.length := ⟨_, rfl⟩
  have HN := Aside0.mk hn
  rw [← hn] at hmax HF ⊢
  have HCF : Aside0 (∀ (W : World) (b : Nat) (B : Option Addr) (cc : Nat) (l : List Int), Below w.heap.size w W → l ∈ ls → Kd.C (Kd.int .i64) W B l.length l → W.cell? ⟨b, 0, none⟩ = some (.slice B l.length cc) → Calls Try.prog 51 #[.slice A n c, .func (.func 57) #[] #[.pointer (some ⟨b, 0, none⟩)]] W fun e w' => e = .returned (.bool (ls.any (lessv l))) ∧ Below W.heap.size W w') := ⟨fun W b B cc l hW hl hC hbx => by
    have hCW := Kd.C_below (Kd.F_now HF.out) hW
    rw [hn] at hCW ⊢
    exact contains_51 57 #[.pointer (some ⟨b, 0, none⟩)] e57 A c ls (lessv l) W hCW (fun d hd W' A' c' hW' hl' hC' => clo57_calls b A' B c' cc l d W' hC' (Kd.C_below hC hW') (hg d hd) (hg l hl) (pw_cell_below hW' hbx))⟩
  clear hs hg e57 hn
  go_enter Try.func31, Try.ntmps31
  go_wp2
  go_loopg [3, 9] (n + 1) (fun kq v3 v9 w' => ∃ i : Nat, v9 = .int .i64 (i : Int) ∧ i ≤ n ∧ Aside0 (n < kq + i) ∧ Aside0 (Kd.N kClause 43 w' w.heap.size (fun k => (P k ∧ k < w.heap.size) ∨ w.heap.size ≤ k) v3 (subT ls i)) ∧ Aside0 (Below w.heap.size w w'))
  case atStart => exact ⟨0, rfl, Nat.zero_le _, ⟨by omega⟩, ⟨Kd.N_nil _ _ _ _ _⟩, ⟨Below.refl _ _⟩⟩
  case round =>
    obtain ⟨i, rfl, hin, HK, HO, HB⟩ := hrel
    cases gk with
    | zero => exact absurd HK.out (by omega)
    | succ k =>
      by_cases hlt : i < n
      · obtain ⟨ad, A0, c0, l, e, hl, hcell, hlc, hFl⟩ := at_rowsF (Kd.F_below HF.out HB.out) i hlt
        cases e
        have hT := subT_take hl
        have HC1 := Aside0.mk (HCF.out (wr.alloc (.cells #[.slice A0 l.length c0] 43)) wr.heap.size A0 c0 l (below_alloc HB.out _) (List.mem_of_getElem? hl) (Kd.C_below (Kd.F_now hFl) (below_alloc (Below.refl _ _) _)) (by rw [cell_new]; rfl))
        have HBX := Aside0.mk (show (wr.alloc (.cells #[.slice A0 l.length c0] 43)).cell? ⟨wr.heap.size, 0, none⟩ = some (.slice A0 l.length c0) by rw [cell_new]; rfl)
        have HFK := Aside0.mk (Kd.FK_slice_mk (e := 3) hlc hFl)
        have HLN := Aside0.mk (subT_length ls i)
        generalize l.length = q at hcell HC1 HBX HFK
        clear hl hlc hFl
        by_cases hh : ls.any (lessv l) = true
        · rw [if_pos hh] at hT
          rw [hh] at HC1
          have HTK := Aside0.mk hT
          clear hT hh
          go_wp2_with (go_at_call 51; refine HC1.out.mono ?_; rintro e w1 ⟨rfl, hb1⟩; have HB1 := Aside0.mk (below_then (below_alloc HB.out _) (below_alloc HB.out _).size hb1); have HO1 := Aside0.mk (Kd.N_below (Kd.N_alloc HO.out _) hb1); clear hb1)
          go_roundg k
          case measure => omega
          case rel => exact ⟨i + 1, by go_num, by omega, ⟨by have := HK.out; omega⟩, ⟨by rw [HTK.out]; exact HO1.out⟩, HB1⟩
        · rw [if_neg hh] at hT
          rw [(Bool.not_eq_true _).mp hh] at HC1
          have HTK := Aside0.mk hT
          clear hT hh
          go_wp2_with (first | (go_at_call 51; refine HC1.out.mono ?_; rintro e w1 ⟨rfl, hb1⟩; have HB1 := Aside0.mk (below_then (below_alloc HB.out _) (below_alloc HB.out _).size hb1); have HO1 := Aside0.mk (Kd.N_below (Kd.N_alloc HO.out _) hb1); have hbx := pw_cell_below hb1 HBX.out; have HFK1 := Aside0.mk (Kd.FK_below (Kd.FK_below HFK.out (below_alloc (Below.refl _ _) _)) hb1); clear hb1) | (at_builtin; refine Kd.N_append kClause w.heap.size rfl (.tmp 18) (.tmp 20) 22 43 (.slice none 0 0) 24 rfl Try.underlying22 info43 rfl (by decide) (by omega) _ _ l [.slice A0 q c0] _ _ rfl rfl HFK1.out (fun k hk => ⟨.inl hk, fun e => by have := Kd.N_base HO1.out k e.symm; have := hk.2; omega⟩) (fun k hk => .inr (by have := HB1.out.size; omega)) HO1.out HB1.out HB1.out.size (by have := HLN.out; omega) ?_; intro v2 w2 hN hb2 hg2 hat2; have HO2 := Aside0.mk hN; have HB2 := Aside0.mk hb2; clear hN hb2 hg2 hat2))
          go_roundg k
          case measure => omega
          case rel => exact ⟨i + 1, by go_num, by omega, ⟨by have := HK.out; omega⟩, ⟨by rw [HTK.out]; exact HO2.out⟩, HB2⟩
      · obtain rfl : i = n := by omega
        go_wp2
        go_ret
        have hq := HO.out
        rw [show subT ls i = subv ls by unfold subT subv; rw [HN.out, List.take_length]] at hq
        exact ⟨_, rfl, Kd.V_mono (Kd.N_V hq) (fun k hk => hk.imp (fun h => h.1) id), HB.out⟩

end Go.Proofs.Ythhmjfjkbmmcaaa
/- slices.Clone of a row of clauses; clean.shorter. -/
namespace Go.Proofs.Ythhmjfjkbmmcaaa
open Go.RowKit Go.Proofs.YthhmjfjkbmmcaaaW.PrintWords Go.Proofs.YthhmjfjkbmmcaaaW.PrintLast Go.Proofs.YthhmjfjkbmmcaaaW.PrintMore
set_option linter.unusedVariables false
set_option linter.unusedSimpArgs false

theorem N_empty (w : World) (ok : Nat → Prop) (hok : ok w.heap.size) : Kd.N kClause 43 (w.alloc (.cells #[] 43)) w.heap.size ok (.slice (some ⟨w.heap.size, 0, none⟩) 0 0) [] := by
  refine ⟨fun k hk => by simp [Value.ownBlock] at hk; rw [← hk]; exact hok, [], rfl, ⟨fun k hk => hk.symm, [], ?_, ?_⟩, fun j x c hx => by simp at hx⟩
  · exact World.ownsRow_made w #[] 0 (Nat.le_refl _) (by unfold maxLen; omega) (by simp)
  · exact ⟨rfl, fun j p hj => by simp at hj⟩

set_option maxHeartbeats 2000000 in
theorem clone80_calls (P : Nat → Prop) (A : Addr) (n c : Nat) (ls : List (List Int)) (w : World) (hs : Kd.F kClause w P (some A) n ls) (hmax : n ≤ 4398046511104) :
    Calls Try.prog 80 #[.slice (some A) n c] w fun e w' => ∃ v, e = .returned v ∧ Kd.N kClause 43 w' w.heap.size (fun k => (P k ∧ k < w.heap.size) ∨ w.heap.size ≤ k) v ls ∧ Below w.heap.size w w' := by
  have q22 : ∀ (w : World) (a : Option Addr) (n c n' c' : Nat), (binOp .eql 22 (.slice a n c) (.slice none n' c')).run Try.prog w = .ok (.bool a.isNone) w := fun w a n c n' c' => Lib.run_eql_slice_nil w _ _ a n c n' c' Try.underlying22
  have HF := Aside0.mk (Kd.F_bound hs)
  have HL := Aside0.mk (Kd.F_len hs)
  clear hs
  go_enter Try.func80, Try.ntmps80
  go_wp2_with (at_builtin; refine Kd.N_append_rows kClause w.heap.size rfl (.tmp 5) (.tmp 6) 22 43 (.slice none 0 0) 24 rfl Try.underlying22 info43 rfl (by decide) (by omega) _ [] ls _ n c (fun k => (P k ∧ k < w.heap.size) ∨ w.heap.size ≤ k) _ rfl rfl (N_empty w _ (.inr (Nat.le_refl _))) (Kd.F_alloc HF.out _) (fun k hk => ⟨.inl hk, fun e => by injection e with e; have := hk.2; simp only at e; omega⟩) (fun k hk => .inr (Nat.le_trans (below_alloc (Below.refl w.heap.size w) _).size hk)) (below_alloc (Below.refl w.heap.size w) _) (below_alloc (Below.refl w.heap.size w) _).size (by simp; omega) ?_; intro v1 w1 hN hb hg hat; have HN := Aside0.mk hN; have HB := Aside0.mk hb; clear hN hb hg hat)
  go_ret
  exact ⟨_, rfl, by simpa using HN.out, HB.out⟩

theorem store_clause {W : World} {base : Nat} {ok okx : Nat → Prop} {g n cap : Nat} {ls : List (List Int)} (h : Kd.N kClause 43 W base ok (.slice (some ⟨g, 0, none⟩) n cap) ls) (i : Nat) (hi : i < n) {X : Option Addr} {q dx : Nat} {x : List Int} (hq : q = x.length) (hF : Kd.F (Kd.int .i64) W okx X q x) (hdx : q ≤ dx) (hokp : ∀ k, okx k → ok k ∧ k ≠ g) :
    (∃ old, W.cell? ⟨g, i, none⟩ = some old) ∧ W.frozen? ⟨g, i, none⟩ = false ∧ Kd.N kClause 43 (W.setCell ⟨g, i, none⟩ (.slice X q dx)) base ok (.slice (some ⟨g, 0, none⟩) n cap) (ls.set i x) ∧ W.grownBy (W.setCell ⟨g, i, none⟩ (.slice X q dx)) (some g) := by
  subst hq
  obtain ⟨cOld, hcl, _, hcc, hfr⟩ := Kd.N_elem h ([] : List Int) (i : Int) (by omega) (by omega)
  have hl1 : cOld.length = 1 := hcl
  obtain ⟨old, rfl⟩ := List.length_eq_one_iff.1 hl1
  have h1 := hcc 0 old rfl
  have h2 := hfr 0
  have e : ((i : Int).toNat * kClause.sz + 0) = i := by show (i : Int).toNat * 1 + 0 = i; omega
  rw [e] at h1 h2
  obtain ⟨h3, h4⟩ := Kd.N_seg (seg := [.slice X x.length dx]) (j := 0) h (i : Int) (by omega) (by omega) hcl hcc (Nat.le_refl 1) (Kd.FK_slice_mk (e := 3) hdx hF) hokp
  rw [e] at h3 h4
  rw [Int.toNat_natCast] at h3
  exact ⟨⟨old, h1⟩, h2, h3, h4⟩
theorem lstr_err (a b : List Int) : (lstr a b).2.2 = 0 ∨ (lstr a b).2.2 = 10 := by
  unfold lstr
  split
  · exact (@pairv_mem a b).2.2.2.2
  · split
    · split <;> exact .inl rfl
    · exact .inl rfl
theorem lstr_good {a b : List Int} (gb : Good b) : Good (lstr a b).1 := by
  have h0 : Good [] := ⟨by simp, by simp⟩
  obtain ⟨_, hmy, _, hly, _⟩ := @pairv_mem a b
  unfold lstr
  split
  · exact h0
  · split
    · split
      · exact ⟨Nat.le_trans (dropv_length _ _) (Nat.le_trans hly gb.1), fun x hx => gb.2 x (hmy x (dropv_mem hx))⟩
      · exact h0
    · exact h0
def hitS (d c : List Int) : Bool := ((lstr d c).2.2 == 0) && (lstr d c).2.1
/-- The first clause that makes clause i shorter: what is left of it. -/
def findK (l : List (List Int)) (i : Nat) : Nat → Nat → Option (List Int)
  | 0, _ => none
  | f + 1, k => if k < l.length then (if i = k then findK l i f (k + 1) else if hitS (l.getD k []) (l.getD i []) then some (lstr (l.getD k []) (l.getD i [])).1 else findK l i f (k + 1)) else none
def findI (l : List (List Int)) : Nat → Nat → Option (Nat × List Int)
  | 0, _ => none
  | f + 1, i => if i < l.length then (match findK l i (l.length + 1) 0 with | some x => some (i, x) | none => findI l f (i + 1)) else none
def shortOf (l : List (List Int)) (o : Option (Nat × List Int)) : List (List Int) × Bool := match o with | some (i, x) => (tidyv (l.set i x), true) | none => (l, false)
/-- The first clause that another one makes shorter, made so; false: there is none. -/
def shortv (l : List (List Int)) : List (List Int) × Bool := shortOf l (findI l (l.length + 1) 0)
theorem set_good {l : List (List Int)} {i : Nat} {x : List Int} (g : ∀ c ∈ l, Good c) (gx : Good x) : ∀ c ∈ l.set i x, Good c := fun c hc => by
  rcases List.mem_or_eq_of_mem_set hc with h | h
  · exact g c h
  · rw [h]; exact gx

set_option maxRecDepth 100000 in
set_option maxHeartbeats 8000000 in
theorem shorter_calls (P : Nat → Prop) (A : Option Addr) (c : Nat) (ls : List (List Int)) (w : World) (hs : Kd.F kClause w P A ls.length ls) (hlc : ls.length ≤ c) (hg : ∀ l ∈ ls, Good l) (hmax : ls.length ≤ 4398046511104) :
    Calls Try.prog 59 #[.slice A ls.length c] w fun e w' => ∃ X d, e = .returned (.tuple #[.slice X (shortv ls).1.length d, .bool (shortv ls).2]) ∧ (shortv ls).1.length ≤ d ∧ Kd.F kClause w' (fun k_ => P k_ ∨ w.heap.size ≤ k_) X (shortv ls).1.length (shortv ls).1 ∧ Below w.heap.size w w' := by
  have HF := Aside0.mk hs
  have HG := Aside0.mk hg
  obtain ⟨n, hn⟩ : ∃ n, n = ls.length := ⟨_, rfl⟩
  have HN := Aside0.mk hn
  rw [← hn] at hmax HF hlc ⊢
  have HSV := Aside0.mk (show shortv ls = shortOf ls (findI ls (n + 1) 0) by unfold shortv; rw [hn])
  obtain ⟨R, hR⟩ : ∃ R, R = findI ls (n + 1) 0 := ⟨_, rfl⟩
  rw [← hR] at HSV
  have H0 := Aside0.mk hR.symm
  clear hs hg hR hn
  rw [HSV.out]
  go_enter Try.func59, Try.ntmps59
  go_wp2
  go_loopg [14] (n + 1) (fun kq v14 w' => ∃ i : Nat, v14 = .int .i64 (i : Int) ∧ i ≤ n ∧ Aside0 (n < kq + i) ∧ Aside0 (findI ls kq i = R) ∧ Aside0 (Below w.heap.size w w'))
  case atStart => exact ⟨0, rfl, Nat.zero_le _, ⟨by omega⟩, H0, ⟨Below.refl _ _⟩⟩
  case round =>
    clear H0
    obtain ⟨i, rfl, hin, HK, HR, HB⟩ := hrel
    cases gk with
    | zero => exact absurd HK.out (by omega)
    | succ k =>
      have hr := HR.out
      clear HR
      simp only [findI] at hr
      rw [← HN.out] at hr
      by_cases hlt : i < n
      · rw [if_pos hlt] at hr
        obtain ⟨ad, A0, c0, li, e, hli, hcell, hlc0, hCi⟩ := at_rows (Kd.C_below (Kd.F_now HF.out) HB.out) i hlt
        cases e
        have hgi := HG.out li (List.mem_of_getElem? hli)
        have hgetI : ls.getD i [] = li := by rw [List.getD_eq_getElem?_getD, hli]; rfl
        have HLI := Aside0.mk hgetI
        have HGI := Aside0.mk hgi
        have HCI := Aside0.mk hCi
        obtain ⟨qi, hqi⟩ : ∃ qi, qi = li.length := ⟨_, rfl⟩
        rw [← hqi] at hcell hlc0
        have HQI := Aside0.mk hqi
        obtain ⟨RK, hRK⟩ : ∃ RK, RK = findK ls i (n + 1) 0 := ⟨_, rfl⟩
        rw [← hRK] at hr
        have H0K := Aside0.mk hRK.symm
        have HR := Aside0.mk hr
        clear hli hgi hCi hqi hgetI hr hRK
        go_wp2
        go_loopg [21] (n + 1) (fun kq v21 w' => ∃ j : Nat, v21 = .int .i64 (j : Int) ∧ j ≤ n ∧ Aside0 (n < kq + j) ∧ Aside0 (findK ls i kq j = RK) ∧ Aside0 (Below wr.heap.size wr w'))
        case atStart => exact ⟨0, rfl, Nat.zero_le _, ⟨by omega⟩, H0K, ⟨Below.refl _ _⟩⟩
        case round =>
          clear H0K
          obtain ⟨j, rfl, hjn, HKj, HRK, HBj⟩ := hrel
          cases gk with
          | zero => exact absurd HKj.out (by omega)
          | succ kj =>
            have hr := HRK.out
            clear HRK
            simp only [findK] at hr
            rw [← HN.out] at hr
            by_cases hltj : j < n
            · rw [if_pos hltj] at hr
              obtain ⟨ad', A1, c1, lj, e, hlj, hcellj, hlc1, hCj⟩ := at_rows (Kd.C_below (Kd.C_below (Kd.F_now HF.out) HB.out) HBj.out) j hltj
              cases e
              by_cases hij : i = j
              · rw [if_pos hij] at hr
                have HRK := Aside0.mk hr
                have hb : ((i : Int) == (j : Int)) = true := by rw [hij]; simp
                clear hr hlj hCj
                go_wp2
                go_roundg kj
                case measure => omega
                case rel => exact ⟨j + 1, by go_num, by omega, ⟨by have := HKj.out; omega⟩, HRK, HBj⟩
              · rw [if_neg hij] at hr
                have hb : ((i : Int) == (j : Int)) = false := by rw [beq_eq_false_iff_ne]; omega
                have hgj := HG.out lj (List.mem_of_getElem? hlj)
                have hgetJ : ls.getD j [] = lj := by rw [List.getD_eq_getElem?_getD, hlj]; rfl
                rw [hgetJ, HLI.out] at hr
                have hST := lstr_calls A1 A0 c1 c0 lj li wr hCj (Kd.C_below HCI.out HBj.out) hgj HGI.out
                have hhS := hitS.eq_1 lj li
                have hse := lstr_err lj li
                have hsg := lstr_good (a := lj) HGI.out
                obtain ⟨qj, hqj⟩ : ∃ qj, qj = lj.length := ⟨_, rfl⟩
                rw [← hqj, ← HQI.out] at hST
                rw [← hqj] at hcellj
                rcases hls : lstr lj li with ⟨x, okx, ex⟩
                rw [hls] at hST hhS hse hsg hr
                simp only at hST hhS hse hsg hr
                have HST := Aside0.mk hST
                have HSG := Aside0.mk hsg
                clear hST hsg hls hqj hgetJ hgj hlj hCj hlc1
                by_cases hit : ex = 0 ∧ okx = true
                · obtain ⟨rfl, rfl⟩ := hit
                  rw [hhS] at hr
                  have hRK2 : some x = RK := hr
                  have hr2 := HR.out
                  rw [← hRK2] at hr2
                  have hR2 : R = some (i, x) := hr2.symm
                  subst hR2
                  have HTG := Aside0.mk (set_good (i := i) HG.out HSG.out)
                  have HLS := Aside0.mk (show (ls.set i x).length = n by rw [List.length_set]; exact HN.out.symm)
                  have HTC : Aside0 (∀ (W : World) (B : Option Addr) (d : Nat), Kd.C kClause W B n (ls.set i x) → Calls Try.prog 22 #[.slice B n d] W fun e w' => ∃ v, e = .returned v ∧ Kd.V kClause 43 w' W.heap.size (fun k_ => (W.heap.size ≤ k_)) v (tidyv (ls.set i x)) ∧ Below W.heap.size W w') := ⟨fun W B d h => by
                    have e := HLS.out
                    rw [← e] at h ⊢
                    exact tidy_calls B d (ls.set i x) W h HTG.out (by omega)⟩
                  obtain ⟨qx, hqx⟩ : ∃ qx, qx = x.length := ⟨_, rfl⟩
                  rw [← hqx] at HST
                  have HQX := Aside0.mk hqx
                  clear hr hr2 hRK2 hhS hse hqx
                  go_wp2_with (first | (go_at_call 79; refine HST.out.mono ?_; rintro e w2 ⟨X, dx, rfl, hdx, hCx, hfr, hb2⟩; have HB2 := Aside0.mk (below_then HBj.out HBj.out.size hb2); have HFX := Aside0.mk (Kd.F_bound (F_block hCx)); have HFR := Aside0.mk hfr; have HF2 := Aside0.mk (Kd.F_below (Kd.F_below HF.out HB.out) HB2.out); have HDX := Aside0.mk hdx; clear hb2 hCx hfr hdx) | (go_at_call 80; refine (clone80_calls P ad n c ls _ HF2.out (by omega)).mono ?_; rintro e w3 ⟨v, rfl, hN3, hb3⟩; obtain ⟨g, cap, rfl, hgb, hgl, _⟩ := Kd.N_form hN3 (by have := HN.out; omega); have hl3 : ls.length = n := HN.out.symm; rw [hl3] at hN3 ⊢; have HN3 := Aside0.mk (Kd.N_mono (ok' := fun k => P k ∨ w.heap.size ≤ k) hN3 (fun k hk => hk.elim (fun h => .inl h.1) (fun h => .inr (by have h1 := HB.out.size; have h2 := HB2.out.size; omega)))); have HB3 := Aside0.mk (below_then HB2.out HB2.out.size hb3); have HB3' := Aside0.mk hb3; have HFX3 := Aside0.mk (Kd.F_below HFX.out hb3); obtain ⟨⟨old, hold⟩, hfz, hN4, hg4⟩ := store_clause HN3.out i (by omega) HQX.out HFX3.out HDX.out (by rintro k ⟨⟨ad, e1, rfl⟩, hk⟩; have h1 := HFR.out ad e1; have h2 := HB.out.size; have h3 := HBj.out.size; exact ⟨.inr (by omega), by omega⟩); have HN4 := Aside0.mk (Kd.N_reads' hN4); have HB4 := Aside0.mk (HB3.out.grown hg4 HB3.out.size (by rintro k e; injection e with e; have := HB2.out.size; omega)); clear hN3 hb3 hgl hgb hl3 hN4 hg4) | (go_at_call 22; refine (HTC.out _ _ _ (by have := HN4.out.2.2; rw [HLS.out] at this; exact this)).mono ?_; rintro e w7 ⟨v7, rfl, hV7, hb7⟩; obtain ⟨A7, c7, rfl, hl7, hF7⟩ := hV7; have HF7 := Aside0.mk hF7; have HB7 := Aside0.mk (below_then HB4.out HB4.out.size hb7); clear hF7 hb7))
                  go_ret2
                  exact ⟨A7, c7, rfl, hl7, Kd.F_mono HF7.out (fun k hk => .inr (by have h1 := HB.out.size; have h2 := HB4.out.size; omega)), below_then HB.out HB.out.size HB7.out⟩
                · have hno : hitS lj li = false := by
                    rw [hhS]
                    rcases hse with rfl | rfl
                    · have : okx = false := by simpa using hit
                      rw [this]; rfl
                    · rfl
                  rw [hno, if_neg (by simp)] at hr
                  have HRK := Aside0.mk hr
                  clear hr hno hhS
                  rcases hse with rfl | rfl
                  · obtain rfl : okx = false := by simpa using hit
                    clear hit
                    go_wp2_with (go_at_call 79; refine HST.out.mono ?_; rintro e w2 ⟨X, dx, rfl, hdx, hCx, hfr, hb2⟩; have HB2 := Aside0.mk (below_then HBj.out HBj.out.size hb2); clear hb2 hCx hfr)
                    go_roundg kj
                    case measure => omega
                    case rel => exact ⟨j + 1, by go_num, by omega, ⟨by have := HKj.out; omega⟩, HRK, HB2⟩
                  · clear hit
                    go_wp2_with (go_at_call 79; refine HST.out.mono ?_; rintro e w2 ⟨X, dx, rfl, hdx, hCx, hfr, hb2⟩; have HB2 := Aside0.mk (below_then HBj.out HBj.out.size hb2); clear hb2 hCx hfr)
                    go_roundg kj
                    case measure => omega
                    case rel => exact ⟨j + 1, by go_num, by omega, ⟨by have := HKj.out; omega⟩, HRK, HB2⟩
            · rw [if_neg hltj] at hr
              have hr2 := HR.out
              rw [← hr] at hr2
              have HR2 := Aside0.mk (show findI ls k (i + 1) = R from hr2)
              clear hr hr2
              go_wp2
              go_roundg k
              case measure => omega
              case rel => exact ⟨i + 1, by go_num, by omega, ⟨by have := HK.out; omega⟩, HR2, ⟨below_then HB.out HB.out.size HBj.out⟩⟩
      · rw [if_neg hlt] at hr
        subst hr
        go_wp2
        go_ret2
        have hl : ls.length = n := HN.out.symm
        exact ⟨A, c, by rw [show (shortOf ls none).1.length = n from hl]; rfl, by rw [show (shortOf ls none).1.length = n from hl]; exact hlc, by rw [show (shortOf ls none).1.length = n from hl]; exact Kd.F_mono (Kd.F_below HF.out HB.out) (fun k hk => .inl hk), HB.out⟩

end Go.Proofs.Ythhmjfjkbmmcaaa
/- clean.units. -/
namespace Go.Proofs.Ythhmjfjkbmmcaaa
open Go.RowKit Go.Proofs.YthhmjfjkbmmcaaaW.PrintWords Go.Proofs.YthhmjfjkbmmcaaaW.PrintLast Go.Proofs.YthhmjfjkbmmcaaaW.PrintMore
set_option linter.unusedVariables false
set_option linter.unusedSimpArgs false

theorem clo52_calls (A : Option Addr) (n c : Nat) (w : World) : Calls Try.prog 52 #[.slice A n c] w fun e w' => e = .returned (.bool (n == 0)) ∧ w = w' := by
  have hz : ((n : Int) == 0) = (n == 0) := by rw [Bool.eq_iff_iff]; simp
  go_enter Try.func52, Try.ntmps52
  go_wp2
  go_ret
  exact ⟨by simp_all, rfl⟩
theorem clo54_calls (A : Option Addr) (n c : Nat) (w : World) : Calls Try.prog 54 #[.slice A n c] w fun e w' => e = .returned (.bool (n == 1)) ∧ w = w' := by
  have hz : ((n : Int) == 1) = (n == 1) := by rw [Bool.eq_iff_iff]; simp; omega
  go_enter Try.func54, Try.ntmps54
  go_wp2
  go_ret
  exact ⟨by simp_all, rfl⟩

/-- Clauses behind a literal that was told. -/
def nextv (l : List (List Int)) (x : Int) : List (List Int) := (l.filter fun c => !has c x).map fun c => delv c x
theorem nextv_take {l : List (List Int)} {x : Int} {j : Nat} {c : List Int} (h : l[j]? = some c) : nextv (l.take (j + 1)) x = if has c x then nextv (l.take j) x else nextv (l.take j) x ++ [delv c x] := by
  unfold nextv
  rw [List.take_add_one, h]
  by_cases hb : has c x = true
  · rw [if_pos hb]; simp [hb]
  · rw [if_neg hb]
    have hb' : has c x = false := by simpa using hb
    simp [hb']
theorem nextv_length (l : List (List Int)) (x : Int) : (nextv l x).length ≤ l.length := by
  unfold nextv
  rw [List.length_map]
  exact List.length_filter_le _ _
theorem delv_good {c : List Int} {x : Int} (g : Good c) : Good (delv c x) := ⟨Nat.le_trans (List.length_filter_le _ _) g.1, fun y hy => g.2 y (List.mem_filter.1 hy).1⟩
theorem nextv_good {l : List (List Int)} {x : Int} (g : ∀ c ∈ l, Good c) : ∀ c ∈ nextv l x, Good c := by
  intro c hc
  unfold nextv at hc
  rw [List.mem_map] at hc
  obtain ⟨c0, h0, rfl⟩ := hc
  exact delv_good (g c0 (List.mem_filter.1 h0).1)
theorem tidyStep_good {out : List (List Int)} {c : List Int} (g : ∀ c ∈ out, Good c) (gc : Good c) : ∀ c' ∈ tidyStep out c, Good c' := by
  intro c' h
  unfold tidyStep at h
  split at h
  · split at h
    · exact g c' h
    · rcases List.mem_append.1 h with h | h
      · exact g c' h
      · rw [List.mem_singleton.1 h]; exact nrm_good gc
  · exact g c' h
theorem tidyv_good {ls : List (List Int)} (g : ∀ c ∈ ls, Good c) : ∀ c ∈ tidyv ls, Good c := by
  have h : ∀ (ls : List (List Int)) (out : List (List Int)), (∀ c ∈ ls, Good c) → (∀ c ∈ out, Good c) → ∀ c ∈ ls.foldl tidyStep out, Good c := by
    intro ls
    induction ls with
    | nil => intro out _ h; exact h
    | cons c ls ih =>
      intro out g1 g2
      exact ih _ (fun c' hc => g1 c' (by simp [hc])) (tidyStep_good g2 (g1 c (by simp)))
  exact h ls [] g (by simp)

/-- Units, told so long as there are some; none: it takes more rounds. -/
def unitsF : Nat → List (List Int) → List Int → Option (List (List Int) × List Int)
  | 0, _, _ => none
  | k + 1, l, told =>
    if l.any (fun c => c.length == 0) then some ([[]], told)
    else if firstIdx (hitAt (fun c => c.length == 1) l) l.length < 0 then some (l, told)
    else unitsF k (tidyv (nextv l (rd (l.getD (firstIdx (hitAt (fun c => c.length == 1) l) l.length).toNat []) 0))) (told ++ [rd (l.getD (firstIdx (hitAt (fun c => c.length == 1) l) l.length).toNat []) 0])

theorem firstFrom_hit (p : Nat → Bool) (n : Nat) : ∀ k i, ¬ firstFrom p n k i < 0 → (firstFrom p n k i).toNat < n ∧ p (firstFrom p n k i).toNat = true ∧ firstFrom p n k i = ((firstFrom p n k i).toNat : Int) := by
  intro k
  induction k with
  | zero => intro i h; simp [firstFrom] at h
  | succ k ih =>
    intro i h
    simp only [firstFrom] at h ⊢
    split at h
    · rename_i h1
      rw [if_pos h1]
      split at h
      · rename_i h2
        rw [if_pos h2]
        exact ⟨by simpa using h1, by simpa using h2, by simp⟩
      · rename_i h2
        rw [if_neg h2]
        exact ih _ h
    · simp at h

theorem heap_new2 (w : World) (o o' : Obj) : ((w.alloc o).alloc o').heap[w.heap.size + 1]? = some o' := by
  have := heap_alloc_new (w.alloc o) o'
  rwa [show (w.alloc o).heap.size = w.heap.size + 1 by simp] at this
theorem box_kept {w w3 : World} {x : Int} {o : Obj} {row : Option Nat} (hg : ((w.alloc (.cells #[.int .i64 x] 3)).alloc o).grownBy w3 row) (hne : row = some w.heap.size → False) : w3.cell? ⟨w.heap.size, 0, none⟩ = some (.int .i64 x) := by
  rw [World.cell?_of_block (w := (w.alloc (.cells #[.int .i64 x] 3)).alloc o) (hg.block w.heap.size (by simp; omega) (fun e => hne e.symm))]
  rw [World.cell?_alloc_lt _ _ _ (by simp)]
  rw [cell_new]
  rfl
theorem F_nilclause (W : World) : Kd.F kClause ((W.alloc (.cells #[] 3)).alloc (.cells #[.slice (some ⟨W.heap.size, 0, none⟩) 0 0] 43)) (fun k => W.heap.size ≤ k) (some ⟨W.heap.size + 1, 0, none⟩) 1 [[]] := by
  intro W' hW
  refine ⟨rfl, by omega, fun _ => ⟨_, rfl, fun j p hj => ?_⟩⟩
  match j, hj with
  | 0, hj =>
    cases hj
    refine ⟨[.slice (some ⟨W.heap.size, 0, none⟩) 0 0], rfl, ⟨_, 0, rfl, Nat.le_refl _, ⟨rfl, by simp, fun h => absurd h (by simp)⟩⟩, fun i u hu => ?_⟩
    match i, hu with
    | 0, hu =>
      cases hu
      have h0 := cell_new (W.alloc (.cells #[] 3)) #[.slice (some ⟨W.heap.size, 0, none⟩) 0 0] 43 0
      rw [show (W.alloc (.cells #[] 3)).heap.size = W.heap.size + 1 by simp] at h0
      have h1 := hW (W.heap.size + 1) (by omega) (by simp)
      exact (World.cell?_of_block h1).trans h0

set_option maxRecDepth 100000 in
set_option maxHeartbeats 8000000 in
theorem units_calls (K : Nat) (P : Nat → Prop) (A : Option Addr) (c : Nat) (ls : List (List Int)) (r : List (List Int)) (t : List Int) (w : World) (hs : Kd.F kClause w P A ls.length ls) (hlc : ls.length ≤ c) (hg : ∀ l ∈ ls, Good l) (hmax : ls.length ≤ 4398046511104) (hK : K ≤ 1099511627776) (h : unitsF K ls [] = some (r, t)) :
    Calls Try.prog 30 #[.slice A ls.length c] w fun e w' => ∃ X d v, e = .returned (.tuple #[.slice X r.length d, v]) ∧ r.length ≤ d ∧ Kd.F kClause w' (fun k => (P k ∨ w.heap.size ≤ k) ∧ some k ≠ v.ownBlock) X r.length r ∧ w'.ownsRow w.heap.size 3 1 v t.length (nums .i64 t) ∧ Below w.heap.size w w' := by
  have HF0 := Aside0.mk (Kd.F_mono (ok' := fun k => (P k ∨ w.heap.size ≤ k) ∧ some k ≠ (Value.slice none 0 0).ownBlock) hs (fun k hk => ⟨.inl hk, by simp [Value.ownBlock]⟩))
  have HH := Aside0.mk h
  have HG0 := Aside0.mk hg
  have e52 : ∀ args w, (callFunc 52 args).run Try.prog w = .ok (.enter 52 args) w := enters_of Try.func52 (by kernel_rfl) rfl
  have e54 : ∀ args w, (callFunc 54 args).run Try.prog w = .ok (.enter 54 args) w := enters_of Try.func54 (by kernel_rfl) rfl
  have HCF : Aside0 (∀ (W : World) (X : Option Addr) (d : Nat) (l : List (List Int)), Kd.C kClause W X l.length l → Calls Try.prog 51 #[.slice X l.length d, .func (.func 52) #[] #[]] W fun e w' => e = .returned (.bool (l.any fun c => c.length == 0)) ∧ Below W.heap.size W w') :=
    ⟨fun W X d l hC => contains_51 52 #[] e52 X d l (fun c => c.length == 0) W hC (fun c _ W' A' c' _ _ _ => (clo52_calls A' c.length c' W').mono fun e w' ⟨h1, h2⟩ => ⟨h1, by rw [h2]; exact Below.refl _ _⟩)⟩
  have HIF : Aside0 (∀ (W : World) (X : Option Addr) (d : Nat) (l : List (List Int)), Kd.C kClause W X l.length l → Calls Try.prog 53 #[.slice X l.length d, .func (.func 54) #[] #[]] W fun e w' => e = .returned (.int .i64 (firstIdx (hitAt (fun c => c.length == 1) l) l.length)) ∧ Below W.heap.size W w') :=
    ⟨fun W X d l hC => indexFunc_53 54 #[] e54 X d l (fun c => c.length == 1) W hC (fun c _ W' A' c' _ _ _ => (clo54_calls A' c.length c' W').mono fun e w' ⟨h1, h2⟩ => ⟨h1, by rw [h2]; exact Below.refl _ _⟩)⟩
  obtain ⟨n, hn⟩ : ∃ n, n = ls.length := ⟨_, rfl⟩
  rw [← hn] at hmax hlc HF0 ⊢
  clear hs hg h e52 e54
  go_enter Try.func30, Try.ntmps30
  go_wp2
  go_loopg [0, 3] K (fun kq v0 v3 w' => ∃ (X : Option Addr) (d m : Nat) (l : List (List Int)) (told : List Int), v0 = .slice X m d ∧ Aside0 (m = l.length) ∧ Aside0 (Kd.F kClause w' (fun k => (P k ∨ w.heap.size ≤ k) ∧ some k ≠ v3.ownBlock) X m l) ∧ Aside0 (∀ c ∈ l, Good c) ∧ m ≤ d ∧ m ≤ n ∧ Aside0 (unitsF kq l told = some (r, t)) ∧ Aside0 (w'.ownsRow w.heap.size 3 1 v3 told.length (nums .i64 told)) ∧ Aside0 (told.length + kq ≤ K) ∧ Aside0 (Below w.heap.size w w'))
  case atStart => exact ⟨A, c, n, ls, [], rfl, ⟨hn⟩, HF0, HG0, hlc, Nat.le_refl _, HH, ⟨World.ownsRow_nil _ _ _ _⟩, ⟨by simp⟩, ⟨Below.refl _ _⟩⟩
  case round =>
    clear HF0 HH HG0 hn hlc
    obtain ⟨X, d, m, l, told, rfl, HM, HF, HG, hmd, hmn, HU, HT, HK, HB⟩ := hrel
    cases gk with
    | zero => have := HU.out; simp [unitsF] at this
    | succ k =>
      have hu := HU.out
      clear HU
      simp only [unitsF] at hu
      have HCF1 : Aside0 (∀ (W : World), Kd.C kClause W X m l → Calls Try.prog 51 #[.slice X m d, .func (.func 52) #[] #[]] W fun e w' => e = .returned (.bool (l.any fun c => c.length == 0)) ∧ Below W.heap.size W w') := ⟨fun W hC => by have := HM.out; rw [this] at hC ⊢; exact HCF.out W X d l hC⟩
      by_cases hany : (l.any fun c => c.length == 0) = true
      · rw [if_pos hany] at hu
        have HU := Aside0.mk hu
        rw [hany] at HCF1
        clear hu hany
        go_wp2_with (go_at_call 51; refine (HCF1.out _ (Kd.F_now HF.out)).mono ?_; rintro e w1 ⟨rfl, hb1⟩; have HB1 := Aside0.mk (below_then HB.out HB.out.size hb1); have HT1 := Aside0.mk (pw_own_below HT.out hb1); clear hb1)
        go_ret2
        obtain ⟨rfl, rfl⟩ : r = [[]] ∧ t = told := by have := HU.out; simp only [Option.some.injEq, Prod.mk.injEq] at this; exact ⟨this.1.symm, this.2.symm⟩
        exact ⟨_, 1, _, rfl, Nat.le_refl _, Kd.F_mono (F_nilclause w1) (fun k hk => ⟨.inr (by have := HB1.out.size; omega), fun e => by have := own_lt HT1.out k e.symm; omega⟩), own_alloc (own_alloc HT1.out _) _, below_alloc (below_alloc HB1.out _) _⟩
      · rw [if_neg hany] at hu
        have hanyf := (Bool.not_eq_true _).mp hany
        rw [hanyf] at HCF1
        have HNE : Aside0 (∀ c ∈ l, 0 < c.length) := ⟨fun c hc => by
          have := List.any_eq_false.1 hanyf c hc
          simp at this
          exact List.length_pos_iff.2 this⟩
        clear hany hanyf
        have HIF1 : Aside0 (∀ (W : World), Kd.C kClause W X m l → Calls Try.prog 53 #[.slice X m d, .func (.func 54) #[] #[]] W fun e w' => e = .returned (.int .i64 (firstIdx (hitAt (fun c => c.length == 1) l) l.length)) ∧ Below W.heap.size W w') := ⟨fun W hC => by have := HM.out; rw [this] at hC ⊢; exact HIF.out W X d l hC⟩
        have hhit := firstFrom_hit (hitAt (fun c => c.length == 1) l) l.length (l.length + 1) 0
        rw [show firstFrom (hitAt (fun c => c.length == 1) l) l.length (l.length + 1) 0 = firstIdx (hitAt (fun c => c.length == 1) l) l.length from rfl] at hhit
        generalize firstIdx (hitAt (fun c => c.length == 1) l) l.length = ix at hu HIF1 hhit
        by_cases hix : ix < 0
        · rw [if_pos hix] at hu
          have HU := Aside0.mk hu
          clear hu hhit
          go_wp2_with (first | (go_at_call 51; refine (HCF1.out _ (Kd.F_now HF.out)).mono ?_; rintro e w1 ⟨rfl, hb1⟩; have HB1 := Aside0.mk (below_then HB.out HB.out.size hb1); have HT1 := Aside0.mk (pw_own_below HT.out hb1); have HF1 := Aside0.mk (Kd.F_below HF.out hb1); clear hb1) | (go_at_call 53; refine (HIF1.out _ (Kd.F_now HF1.out)).mono ?_; rintro e w2 ⟨rfl, hb2⟩; have HB2 := Aside0.mk (below_then HB1.out HB1.out.size hb2); have HT2 := Aside0.mk (pw_own_below HT1.out hb2); have HF2 := Aside0.mk (Kd.F_below HF1.out hb2); clear hb2))
          go_ret2
          obtain ⟨rfl, rfl⟩ : r = l ∧ t = told := by have := HU.out; simp only [Option.some.injEq, Prod.mk.injEq] at this; exact ⟨this.1.symm, this.2.symm⟩
          have hm := HM.out
          subst hm
          exact ⟨_, _, _, rfl, hmd, HF2.out, HT2.out, HB2.out⟩
        · rw [if_neg hix] at hu
          obtain ⟨hi1, hi2, hi3⟩ := hhit hix
          obtain ⟨j0, rfl⟩ : ∃ j0 : Nat, ix = (j0 : Int) := ⟨_, hi3⟩
          rw [Int.toNat_natCast] at hi1 hi2 hu
          obtain ⟨c0, hc0⟩ : ∃ c0, l[j0]? = some c0 := ⟨_, List.getElem?_eq_getElem hi1⟩
          have hgd : l.getD j0 [] = c0 := by rw [List.getD_eq_getElem?_getD, hc0]; rfl
          have hlen0 : c0.length = 1 := by unfold hitAt at hi2; rw [hgd] at hi2; simpa using hi2
          obtain ⟨x, rfl⟩ := List.length_eq_one_iff.1 hlen0
          rw [hgd, show rd [x] 0 = x from rfl] at hu
          have HU := Aside0.mk hu
          have HC0 := Aside0.mk hc0
          have hx := (HG.out [x] (List.mem_of_getElem? hc0)).2 x (by simp)
          have HX := Aside0.mk hx
          have hj0 : j0 < m := by have := HM.out; omega
          have hbx : -262144 ≤ x ∧ x ≤ 262144 := hx.2
          clear hu hgd hlen0 hi1 hi2 hi3 hix hhit hc0 hx
          go_wp2_with (first | (go_at_call 51; refine (HCF1.out _ (Kd.F_now HF.out)).mono ?_; rintro e w1 ⟨rfl, hb1⟩; have HB1 := Aside0.mk (below_then HB.out HB.out.size hb1); have HT1 := Aside0.mk (pw_own_below HT.out hb1); have HF1 := Aside0.mk (Kd.F_below HF.out hb1); clear hb1) | (go_at_call 53; refine (HIF1.out _ (Kd.F_now HF1.out)).mono ?_; rintro e w2 ⟨rfl, hb2⟩; have HB2 := Aside0.mk (below_then HB1.out HB1.out.size hb2); have HT2 := Aside0.mk (pw_own_below HT1.out hb2); have HF2 := Aside0.mk (Kd.F_below HF1.out hb2); obtain ⟨ad, A0, cc, lc, ead, elc, hcell, hlcc, hCx⟩ := at_rows (Kd.F_now HF2.out) j0 hj0; have elc2 : lc = [x] := Option.some.inj (elc.symm.trans HC0.out); subst elc2; cases ead; obtain ⟨a0, ea0, hcx⟩ := Kd.at_int hCx 0 (by simp) (by simp); cases ea0; have hcx' : w2.cell? a0 = some (.int .i64 x) := hcx; have hcell' : w2.cell? (ad.add j0) = some (.slice (some a0) 1 cc) := hcell; clear hb2 hcx hcell elc hCx) | (at_builtin; refine law_appends rfl (.tmp 26) (.tmp 28) 40 3 (.int .i64 0) 1 8 rfl Try.underlying40 infoInt rfl (by omega) (by omega) w.heap.size _ _ _ rfl (own_alloc (own_alloc HT2.out _) _) _ 1 1 (nums .i64 [x]) rfl (rowN_nums (xs := [x]) (heap_new2 _ _ _) (by simp)) (by have := HK.out; omega) (below_alloc (below_alloc HB2.out _) _).size ?_; intro v3 w3 hown hg hat; have HT3 := Aside0.mk hown; have HB3 := Aside0.mk ((below_alloc (below_alloc HB2.out _) _).grown hg (below_alloc (below_alloc HB2.out _) _).size (own_base HT2.out)); have HBOX := Aside0.mk (show w3.cell? ⟨w2.heap.size, 0, none⟩ = some (.int .i64 x) from box_kept hg (fun e => by have := own_lt HT2.out _ e; omega)); have HS3 := Aside0.mk (show w2.heap.size < w3.heap.size from by have := hg.size; simp at this; omega); have HF3 := Aside0.mk (Kd.F_after (Kd.F_alloc (Kd.F_alloc HF2.out _) _) hg hat); clear hown hg hat hcx' hcell'))
          have HL := Aside0.mk (nextv_length l x)
          go_loopg [6, 32] (m + 1) (fun kq v6 v32 w' => ∃ j : Nat, v32 = .int .i64 (j : Int) ∧ j ≤ m ∧ Aside0 (m < kq + j) ∧ Aside0 (Kd.N kClause 43 w' w3.heap.size (fun k => w3.heap.size ≤ k) v6 (nextv (l.take j) x)) ∧ Aside0 (Below w3.heap.size w3 w'))
          case atStart => exact ⟨0, rfl, Nat.zero_le _, ⟨by omega⟩, ⟨Kd.N_nil _ _ _ _ _⟩, ⟨Below.refl _ _⟩⟩
          case round =>
            obtain ⟨j, rfl, hjm, HKj, HO, HBi⟩ := hrel
            cases gk with
            | zero => exact absurd HKj.out (by omega)
            | succ kj =>
              by_cases hlt : j < m
              · obtain ⟨ad', A1, c1, cl, e, hcl, hcell, hlc1, hC1⟩ := at_rows (Kd.C_below (Kd.F_now HF3.out) HBi.out) j hlt
                cases e
                have hT := nextv_take (x := x) hcl
                have hgcl := HG.out cl (List.mem_of_getElem? hcl)
                have hpos := HNE.out cl (List.mem_of_getElem? hcl)
                have HGC := Aside0.mk hgcl
                have hbox := pw_cell_below HBi.out HBOX.out
                obtain ⟨q, hq⟩ : ∃ q, q = cl.length := ⟨_, rfl⟩
                have hqm : q ≤ 16384 := by have := hgcl.1; omega
                have hqp : 0 < q := by omega
                have HHAS := Aside0.mk (has_calls A1 c1 cl x wr hC1)
                have HCLN := Aside0.mk (clone_41 A1 cl.length c1 (nums .i64 cl) wr (rowN_ints hC1) (by omega))
                rw [← hq] at hcell HHAS HCLN
                clear hcl hgcl hpos hlc1 hC1 hq
                by_cases hh : has cl x = true
                · rw [if_pos hh] at hT
                  rw [hh] at HHAS
                  have HTK := Aside0.mk hT
                  clear hT hh
                  go_wp2_with (go_at_call 40; refine HHAS.out.mono ?_; rintro e w4 ⟨rfl, rfl⟩)
                  go_roundg kj
                  case measure => omega
                  case rel => exact ⟨j + 1, by go_num, by omega, ⟨by have := HKj.out; omega⟩, ⟨by rw [HTK.out]; exact HO.out⟩, HBi⟩
                · rw [if_neg hh] at hT
                  rw [(Bool.not_eq_true _).mp hh] at HHAS
                  have HTK := Aside0.mk hT
                  have HLN := Aside0.mk (show (nextv (l.take j) x).length ≤ j from Nat.le_trans (nextv_length _ _) (by rw [List.length_take]; omega))
                  clear hT hh
                  go_wp2_with (first | (go_at_call 40; refine HHAS.out.mono ?_; rintro e w4 ⟨rfl, rfl⟩) | (go_at_call 41; refine HCLN.out.mono ?_; rintro e w4 ⟨v, rfl, ho4, hb4⟩; obtain ⟨g, cap, rfl, hgb, hgl⟩ := ho4.form hqp; have HO4 := Aside0.mk ho4; have HBi4 := Aside0.mk (below_then HBi.out HBi.out.size hb4); have HN4 := Aside0.mk (Kd.N_below (Kd.N_bound HO.out) hb4); have hbox4 := pw_cell_below hb4 hbox; have HGB := Aside0.mk hgb; have HSB := Aside0.mk HBi.out.size; clear ho4 hb4 hgl hgb) | (go_at_call 55; refine (delete_calls g cap q _ w2.heap.size cl x _ HO4.out (by omega) HX.out hbox4 (by have := HGB.out; have := HSB.out; have := HS3.out; omega)).mono ?_; rintro e w5 ⟨rfl, ho5, hg5⟩; have HC5 := Aside0.mk (F_block (C_of_own ho5)); have HLE5 := Aside0.mk (own_le ho5); have HBi5 := Aside0.mk (HBi4.out.grown hg5 HBi4.out.size (by rintro k e; injection e with e; have := HGB.out; have := HSB.out; omega)); have HN5 := Aside0.mk (Kd.N_mono (ok' := fun k => w3.heap.size ≤ k) (Kd.N_grown HN4.out hg5 (by rintro k hk e; injection e with e; have := HGB.out; have := hk.2; omega)) (fun k hk => hk.1)); have HV5 := Aside0.mk (show ∀ k, Value.ownBlock _ = some k → k < wr.heap.size from Kd.N_lt HO.out); clear ho5 hg5 hbox4) | (at_builtin; refine Kd.N_append kClause w3.heap.size rfl (.tmp 40) (.tmp 45) 22 43 (.slice none 0 0) 24 rfl Try.underlying22 info43 rfl (by decide) (by omega) _ _ (delv cl x) [.slice (some ⟨g, 0, none⟩) (delv cl x).length cap] _ (fun k => ∃ ad, (some ⟨g, 0, none⟩ : Option Addr) = some ad ∧ k = ad.block) rfl rfl (Kd.FK_slice_mk HLE5.out HC5.out) (by rintro k ⟨ad, e1, rfl⟩; injection e1 with e1; subst e1; have h1 := HGB.out; have h2 := HSB.out; exact ⟨by show w3.heap.size ≤ g; omega, fun e2 => by have h3 := HV5.out _ e2.symm; simp only at h3; omega⟩) (fun k hk => by have := HBi5.out.size; omega) HN5.out HBi5.out HBi5.out.size (by have := HLN.out; omega) ?_; intro v6' w6 hN hb6 hg6 hat6; have HN6 := Aside0.mk hN; have HBi6 := Aside0.mk hb6; clear hN hb6 hg6 hat6))
                  go_roundg kj
                  case measure => omega
                  case rel => exact ⟨j + 1, by go_num, by omega, ⟨by have := HKj.out; omega⟩, ⟨by rw [HTK.out]; exact HN6.out⟩, HBi6⟩
              · obtain rfl : j = m := by omega
                have hq := HO.out
                rw [show l.take j = l by rw [HM.out, List.take_length]] at hq
                obtain ⟨A6, c6, rfl, hl6, hC6⟩ := Kd.N_reads hq
                have hlen := nextv_length l x
                have hTD := tidy_calls A6 c6 (nextv l x) wr hC6 (nextv_good HG.out) (by have := HM.out; omega)
                obtain ⟨p, hp⟩ : ∃ p, p = (nextv l x).length := ⟨_, rfl⟩
                rw [← hp] at hTD
                have HTD := Aside0.mk hTD
                have HPL := Aside0.mk (show (tidyv (nextv l x)).length ≤ n from Nat.le_trans (tidyv_length _) (by have := HM.out; omega))
                have HTG := Aside0.mk (tidyv_good (nextv_good (x := x) HG.out))
                have hp' : (nextv l x).length = p := hp.symm
                rw [hp'] at *
                clear hTD hC6 hq hlen hp hp'
                go_wp2_with (go_at_call 22; refine HTD.out.mono ?_; rintro e w7 ⟨v7, rfl, hV7, hb7⟩; obtain ⟨A7, c7, rfl, hl7, hF7⟩ := hV7; have HF7 := Aside0.mk hF7; have HSB := Aside0.mk HBi.out.size; have HB7 := Aside0.mk (below_then HB3.out HB3.out.size (below_then HBi.out HBi.out.size hb7)); have HT7 := Aside0.mk (pw_own_below (pw_own_below HT3.out HBi.out) hb7); clear hF7 hb7)
                go_roundg k
                case measure => omega
                case rel => exact ⟨A7, c7, _, tidyv (nextv l x), told ++ [x], rfl, ⟨rfl⟩, ⟨Kd.F_mono HF7.out (fun q hq => ⟨.inr (by have h1 := HB3.out.size; have h2 := HSB.out; omega), fun e => by have h1 := own_lt HT3.out q e.symm; have h2 := HSB.out; omega⟩)⟩, HTG, hl7, HPL.out, HU, ⟨by rw [List.length_append, nums_append]; exact HT7.out⟩, ⟨by have := HK.out; simp only [List.length_append, List.length_singleton]; omega⟩, HB7⟩

end Go.Proofs.Ythhmjfjkbmmcaaa
/- clean.strengthen. -/
namespace Go.Proofs.Ythhmjfjkbmmcaaa
open Go.RowKit Go.Proofs.YthhmjfjkbmmcaaaW.PrintWords Go.Proofs.YthhmjfjkbmmcaaaW.PrintLast Go.Proofs.YthhmjfjkbmmcaaaW.PrintMore
set_option linter.unusedVariables false
set_option linter.unusedSimpArgs false

theorem shortv_good {l : List (List Int)} (g : ∀ c ∈ l, Good c) : ∀ c ∈ (shortv l).1, Good c := by
  have hK : ∀ f i k x, findK l i f k = some x → i < l.length → Good x := by
    intro f
    induction f with
    | zero => intro i k x h; simp [findK] at h
    | succ f ih =>
      intro i k x h hi
      simp only [findK] at h
      split at h
      · split at h
        · exact ih i (k + 1) x h hi
        · split at h
          · injection h with h
            rw [← h]
            exact lstr_good (by rw [List.getD_eq_getElem?_getD, List.getElem?_eq_getElem hi]; exact g _ (List.getElem_mem hi))
          · exact ih i (k + 1) x h hi
      · cases h
  have hI : ∀ f i j x, findI l f i = some (j, x) → Good x := by
    intro f
    induction f with
    | zero => intro i j x h; simp [findI] at h
    | succ f ih =>
      intro i j x h
      simp only [findI] at h
      split at h
      · rename_i hi
        split at h
        · rename_i x' hx
          injection h with h
          injection h with _ h
          rw [← h]
          exact hK _ _ _ _ hx hi
        · exact ih (i + 1) j x h
      · cases h
  unfold shortv
  rcases hR : findI l (l.length + 1) 0 with _ | ⟨j, x⟩
  · exact g
  · exact tidyv_good (set_good g (hI _ _ _ _ hR))
theorem shortv_length (l : List (List Int)) : (shortv l).1.length ≤ l.length := by
  unfold shortv
  rcases findI l (l.length + 1) 0 with _ | ⟨j, x⟩
  · exact Nat.le_refl _
  · exact Nat.le_trans (tidyv_length _) (by rw [List.length_set]; exact Nat.le_refl _)

/-- Made shorter so long as a clause can be; none: it takes more rounds. -/
def strF : Nat → List (List Int) → Option (List (List Int))
  | 0, _ => none
  | k + 1, l => if (shortv l).2 then strF k (shortv l).1 else some (shortv l).1

set_option maxHeartbeats 4000000 in
theorem strengthen_calls (K : Nat) (P : Nat → Prop) (A : Option Addr) (c : Nat) (ls r : List (List Int)) (w : World) (hs : Kd.F kClause w P A ls.length ls) (hlc : ls.length ≤ c) (hg : ∀ l ∈ ls, Good l) (hmax : ls.length ≤ 4398046511104) (h : strF K ls = some r) :
    Calls Try.prog 32 #[.slice A ls.length c] w fun e w' => ∃ X d, e = .returned (.slice X r.length d) ∧ r.length ≤ d ∧ Kd.F kClause w' (fun k_ => P k_ ∨ w.heap.size ≤ k_) X r.length r ∧ Below w.heap.size w w' := by
  have HF := Aside0.mk (Kd.F_mono (ok' := fun k_ => P k_ ∨ w.heap.size ≤ k_) hs (fun k hk => .inl hk))
  have HG := Aside0.mk hg
  have HH := Aside0.mk h
  obtain ⟨n, hn⟩ : ∃ n, n = ls.length := ⟨_, rfl⟩
  have HN := Aside0.mk hn
  rw [← hn] at hmax hlc HF ⊢
  clear hs hg h hn
  go_enter Try.func32, Try.ntmps32
  go_wp2
  go_loopg [0, 3] (K + 1) (fun kq v0 v3 w' => ∃ (X : Option Addr) (d m : Nat) (l : List (List Int)) (ok : Bool), v0 = .slice X m d ∧ v3 = .bool ok ∧ Aside0 (m = l.length) ∧ Aside0 (Kd.F kClause w' (fun k_ => P k_ ∨ w.heap.size ≤ k_) X m l) ∧ Aside0 (∀ c ∈ l, Good c) ∧ m ≤ d ∧ m ≤ n ∧ Aside0 ((ok = true ∧ ∃ q, kq = q + 1 ∧ strF q l = some r) ∨ (ok = false ∧ l = r ∧ 0 < kq)) ∧ Aside0 (Below w.heap.size w w'))
  case atStart => exact ⟨A, c, n, ls, true, rfl, rfl, HN, HF, HG, hlc, Nat.le_refl _, ⟨.inl ⟨rfl, K, rfl, HH.out⟩⟩, ⟨Below.refl _ _⟩⟩
  case round =>
    clear HF HH HG HN hlc
    obtain ⟨X, d, m, l, ok, rfl, rfl, HM, HF, HG, hmd, hmn, HU, HB⟩ := hrel
    cases gk with
    | zero => exact absurd HU.out (by rintro (⟨_, q, h, _⟩ | ⟨_, _, h⟩) <;> omega)
    | succ k =>
      cases ok with
      | false =>
        obtain rfl : l = r := by
          rcases HU.out with ⟨h, _⟩ | ⟨_, h, _⟩
          · cases h
          · exact h
        have hm := HM.out
        go_wp2
        go_ret
        subst hm
        exact ⟨_, _, rfl, hmd, HF.out, HB.out⟩
      | true =>
        obtain ⟨q, hkq, hstr⟩ : ∃ q, k = q ∧ strF q l = some r := by
          rcases HU.out with ⟨_, q, h, h2⟩ | ⟨h, _⟩
          · exact ⟨q, by omega, h2⟩
          · cases h
        subst hkq
        cases k with
        | zero => simp [strF] at hstr
        | succ k2 =>
          simp only [strF] at hstr
          have hSH := shorter_calls (fun k_ => P k_ ∨ w.heap.size ≤ k_) X d l wr (by have := HF.out; rw [HM.out] at this; exact this) (by have := HM.out; omega) HG.out (by have := HM.out; omega)
          have hsg := shortv_good HG.out
          have hsl := shortv_length l
          have hm := HM.out
          rcases hs : shortv l with ⟨l2, ok2⟩
          rw [hs] at hSH hsg hsl hstr
          simp only at hSH hsg hsl hstr
          obtain ⟨m2, hm2⟩ : ∃ m2, m2 = l2.length := ⟨_, rfl⟩
          rw [← hm, ← hm2] at hSH
          have HSH := Aside0.mk hSH
          have HSG := Aside0.mk hsg
          have HSL := Aside0.mk (show m2 ≤ n by omega)
          have HM2 := Aside0.mk hm2
          have HST := Aside0.mk (show (ok2 = true ∧ ∃ q, k2 + 1 = q + 1 ∧ strF q l2 = some r) ∨ (ok2 = false ∧ l2 = r ∧ 0 < k2 + 1) by
            cases ok2 with
            | true => exact .inl ⟨rfl, k2, rfl, hstr⟩
            | false => exact .inr ⟨rfl, by simpa using hstr, by omega⟩)
          clear hSH hsg hsl hs hm hm2 hstr
          go_wp2_with (go_at_call 59; refine HSH.out.mono ?_; rintro e w2 ⟨X2, d2, rfl, hd2, hF2, hb2⟩; have HF2 := Aside0.mk (Kd.F_mono (ok' := fun k_ => P k_ ∨ w.heap.size ≤ k_) hF2 (fun k hk => hk.elim id (fun h => .inr (Nat.le_trans HB.out.size h)))); have HB2 := Aside0.mk (below_then HB.out HB.out.size hb2); clear hF2 hb2)
          go_roundg (k2 + 1)
          case measure => omega
          case rel => exact ⟨X2, d2, m2, l2, ok2, rfl, rfl, HM2, HF2, HSG, hd2, HSL.out, HST, HB2⟩

end Go.Proofs.Ythhmjfjkbmmcaaa
/- The hand-walked functions of clean, as the printed texts ask for them. -/
namespace Go.Proofs.Ythhmjfjkbmmcaaa.GCS
open Go.RowKit Go.Proofs.YthhmjfjkbmmcaaaW.PrintWords Go.Proofs.YthhmjfjkbmmcaaaW.PrintLast Go.Proofs.YthhmjfjkbmmcaaaW.PrintMore
set_option linter.unusedVariables false
set_option linter.unusedSimpArgs false

instance (x : Int) : Decidable (LitOk x) := inferInstanceAs (Decidable (_ ∧ _))
instance (l : List Int) : Decidable (Good l) := inferInstanceAs (Decidable (_ ∧ _))

def clean_check.f (a0_0 : Int) (l0_1 : List (List Int)) : Option (Int) := some (chk a0_0 l0_1)
theorem clean_check.calls (a0_0 : Int) (A0_1 : Option Addr) (c0_1 : Nat) (l0_1 : List (List Int)) (r : Int) (w : World) (hr0_1 : Kd.C (Kd.slice 3 (Kd.int .i64)) w A0_1 l0_1.length l0_1) (hc0_1 : l0_1.length ≤ c0_1) (h : clean_check.f a0_0 l0_1 = some r) :
    Calls Try.prog 20 #[.agg #[.int .i64 a0_0, .slice A0_1 l0_1.length c0_1]] w fun e w' => e = .returned (.int .i64 r) ∧ Below w.heap.size w w' := by
  injection h with h
  subst h
  exact check_calls a0_0 A0_1 c0_1 l0_1 w hr0_1

def clean_has.f (l0 : List Int) (a1 : Int) : Option (Bool) := some (has l0 a1)
theorem clean_has.calls (A0 : Option Addr) (c0 : Nat) (l0 : List Int) (a1 : Int) (r : Bool) (w : World) (hr0 : Kd.C (Kd.int .i64) w A0 l0.length l0) (hc0 : l0.length ≤ c0) (h : clean_has.f l0 a1 = some r) :
    Calls Try.prog 40 #[.slice A0 l0.length c0, .int .i64 a1] w fun e w' => e = .returned (.bool r) ∧ Below w.heap.size w w' := by
  injection h with h
  subst h
  exact (has_calls A0 c0 l0 a1 w hr0).mono fun e w' ⟨h1, h2⟩ => ⟨h1, by rw [h2]; exact Below.refl _ _⟩

def clean_tidy.f (l0 : List (List Int)) : Option ((List (List Int))) := if (∀ l ∈ l0, Good l) ∧ l0.length ≤ 4398046511104 then some (tidyv l0) else none
theorem clean_tidy.calls (A0 : Option Addr) (c0 : Nat) (l0 : List (List Int)) (r : List (List Int)) (w : World) (hr0 : Kd.C (Kd.slice 3 (Kd.int .i64)) w A0 l0.length l0) (hc0 : l0.length ≤ c0) (h : clean_tidy.f l0 = some r) :
    Calls Try.prog 22 #[.slice A0 l0.length c0] w fun e w' => ∃ v0_ : Value, e = .returned (v0_) ∧ Kd.V (Kd.slice 3 (Kd.int .i64)) 43 w' w.heap.size (fun k_ => (w.heap.size ≤ k_)) v0_ r ∧ Below w.heap.size w w' := by
  unfold clean_tidy.f at h
  split at h
  · rename_i hb
    injection h with h
    subst h
    exact tidy_calls A0 c0 l0 w hr0 hb.1 hb.2
  · cases h

def lits_Resolve.f (l0 : List Int) (l1 : List Int) (a2 : Int) : Option (List Int × Int) := if Good l0 ∧ Good l1 ∧ LitOk a2 then some (resv l0 l1 a2) else none
theorem lits_Resolve.calls (A0 : Option Addr) (c0 : Nat) (l0 : List Int) (A1 : Option Addr) (c1 : Nat) (l1 : List Int) (a2 : Int) (r1 : List Int) (r2 : Int) (w : World) (hr0 : Kd.C (Kd.int .i64) w A0 l0.length l0) (hc0 : l0.length ≤ c0) (hr1 : Kd.C (Kd.int .i64) w A1 l1.length l1) (hc1 : l1.length ≤ c1) (h : lits_Resolve.f l0 l1 a2 = some (r1, r2)) :
    Calls Try.prog 42 #[.slice A0 l0.length c0, .slice A1 l1.length c1, .int .i64 a2] w fun e w' => ∃ v0_ : Value, e = .returned (.tuple #[v0_, .int .i64 r2]) ∧ Kd.V (Kd.int .i64) 3 w' w.heap.size (fun k_ => (w.heap.size ≤ k_)) v0_ r1 ∧ Below w.heap.size w w' := by
  unfold lits_Resolve.f at h
  split at h
  · rename_i hb
    injection h with h
    refine (resolve_calls A0 A1 c0 c1 l0 l1 a2 w hr0 hr1 hb.1 hb.2.1 hb.2.2).mono ?_
    rw [h]
    rintro e w' ⟨X, d, rfl, rfl, hC, hfr, hB⟩
    exact ⟨_, rfl, Kd.V_mk (Nat.le_refl _) (Kd.F_mono (F_block hC) (by rintro k ⟨ad, e1, rfl⟩; exact hfr ad e1)), hB⟩
  · cases h

/-- How many literals clauses have. -/
def litsOf (l : List (List Int)) : Nat := (l.map List.length).sum
def clean_units.f (l0 : List (List Int)) : Option ((List (List Int)) × List Int) := if (∀ l ∈ l0, Good l) ∧ l0.length ≤ 4398046511104 ∧ litsOf l0 + 2 ≤ 1099511627776 then unitsF (litsOf l0 + 2) l0 [] else none
theorem clean_units.calls (P0_ : Nat → Prop) (A0 : Option Addr) (c0 : Nat) (l0 : List (List Int)) (r1 : List (List Int)) (r2 : List Int) (w : World) (hs0 : Kd.V (Kd.slice 3 (Kd.int .i64)) 43 w w.heap.size (fun k_ => P0_ k_) (.slice A0 l0.length c0) l0) (h : clean_units.f l0 = some (r1, r2)) :
    Calls Try.prog 30 #[.slice A0 l0.length c0] w fun e w' => ∃ v0_ v1_ : Value, e = .returned (.tuple #[v0_, v1_]) ∧ Kd.V (Kd.slice 3 (Kd.int .i64)) 43 w' w.heap.size (fun k_ => (P0_ k_ ∨ w.heap.size ≤ k_) ∧ some k_ ≠ (v1_ : Value).ownBlock) v0_ r1 ∧ Kd.R (Kd.int .i64) 3 w' w.heap.size (fun k_ => (P0_ k_ ∨ w.heap.size ≤ k_)) v1_ r2 ∧ Below w.heap.size w w' := by
  unfold clean_units.f at h
  split at h
  · rename_i hb
    obtain ⟨_, hlc, hF⟩ := Kd.V_at hs0
    refine (units_calls (litsOf l0 + 2) P0_ A0 c0 l0 r1 r2 w hF hlc hb.1 hb.2.1 hb.2.2 h).mono ?_
    rintro e w' ⟨X, d, v, rfl, hd, hF2, ho, hB⟩
    exact ⟨_, _, rfl, Kd.V_mk hd hF2, Kd.R_of_own (h1 := fun _ => rfl) ho (fun k hk => .inr (own_base ho k hk)), hB⟩
  · cases h

def clean_subsume.f (l0 : List (List Int)) : Option ((List (List Int))) := if (∀ l ∈ l0, Good l) ∧ l0.length ≤ 4398046511104 then some (subv l0) else none
theorem clean_subsume.calls (P0_ : Nat → Prop) (A0 : Option Addr) (c0 : Nat) (l0 : List (List Int)) (r : List (List Int)) (w : World) (hs0 : Kd.V (Kd.slice 3 (Kd.int .i64)) 43 w w.heap.size (fun k_ => P0_ k_) (.slice A0 l0.length c0) l0) (h : clean_subsume.f l0 = some r) :
    Calls Try.prog 31 #[.slice A0 l0.length c0] w fun e w' => ∃ v0_ : Value, e = .returned (v0_) ∧ Kd.V (Kd.slice 3 (Kd.int .i64)) 43 w' w.heap.size (fun k_ => (P0_ k_ ∨ w.heap.size ≤ k_)) v0_ r ∧ Below w.heap.size w w' := by
  unfold clean_subsume.f at h
  split at h
  · rename_i hb
    injection h with h
    subst h
    obtain ⟨_, _, hF⟩ := Kd.V_at hs0
    exact subsume_calls P0_ A0 c0 l0 w hF hb.1 hb.2
  · cases h

def clean_strengthen.f (l0 : List (List Int)) : Option ((List (List Int))) := if (∀ l ∈ l0, Good l) ∧ l0.length ≤ 4398046511104 then strF (litsOf l0 + 2) l0 else none
theorem clean_strengthen.calls (P0_ : Nat → Prop) (A0 : Option Addr) (c0 : Nat) (l0 : List (List Int)) (r : List (List Int)) (w : World) (hs0 : Kd.V (Kd.slice 3 (Kd.int .i64)) 43 w w.heap.size (fun k_ => P0_ k_) (.slice A0 l0.length c0) l0) (h : clean_strengthen.f l0 = some r) :
    Calls Try.prog 32 #[.slice A0 l0.length c0] w fun e w' => ∃ v0_ : Value, e = .returned (v0_) ∧ Kd.V (Kd.slice 3 (Kd.int .i64)) 43 w' w.heap.size (fun k_ => (P0_ k_ ∨ w.heap.size ≤ k_)) v0_ r ∧ Below w.heap.size w w' := by
  unfold clean_strengthen.f at h
  split at h
  · rename_i hb
    obtain ⟨_, hlc, hF⟩ := Kd.V_at hs0
    refine (strengthen_calls (litsOf l0 + 2) P0_ A0 c0 l0 r w hF hlc hb.1 hb.2 h).mono ?_
    rintro e w' ⟨X, d, rfl, hd, hF2, hB⟩
    exact ⟨_, rfl, Kd.V_mk hd hF2, hB⟩
  · cases h

end Go.Proofs.Ythhmjfjkbmmcaaa.GCS
