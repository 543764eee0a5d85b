/- Texts merged. -/
import Derived.Test.YthhmjfjkbmmcaaaKRD
import Derived.Test.YthhmjfjkbmmcaaaKRE
/- trestleref19.out. -/
namespace Go.Proofs.Ythhmjfjkbmmcaaa
open Go.RowKit Go.Proofs.YthhmjfjkbmmcaaaW.PrintWords Go.Proofs.YthhmjfjkbmmcaaaW.PrintLast Go.Proofs.YthhmjfjkbmmcaaaW.PrintMore
set_option linter.unusedVariables false
set_option linter.unusedSimpArgs false

theorem refHas_loop (xs : List Int) (x : Int) (hl : xs.length ≤ 9223372036854775806) : ∀ k i, i ≤ xs.length → xs.length < k + i → GCO.trestleref01_Has.l0 k xs x (i : Int) = some (has (xs.drop i) x) := by
  intro k
  induction k with
  | zero => intro i h1 h2; omega
  | succ k ih =>
    intro i h1 h2
    unfold GCO.trestleref01_Has.l0
    by_cases hlt : i < xs.length
    · have hw : wrap64 ((i : Int) + 1) = ((i + 1 : Nat) : Int) := by unfold wrap64; omega
      have hrd : rd xs (i : Int) = xs[i] := by simp [rd, List.getD_eq_getElem?_getD, List.getElem?_eq_getElem hlt]
      have hd : has (xs.drop i) x = ((x == xs[i]) || has (xs.drop (i + 1)) x) := by rw [List.drop_eq_getElem_cons hlt]; rfl
      rw [if_pos (by omega), if_pos (by omega), hrd, hd, hw, ih (i + 1) (by omega) (by omega)]
      by_cases e : xs[i] = x
      · rw [if_pos e, beq_iff_eq.2 e.symm]; rfl
      · rw [if_neg e, beq_eq_false_iff_ne.2 (Ne.symm e)]; rfl
    · rw [if_neg (by omega), List.drop_eq_nil_of_le (by omega)]
      rfl
theorem refHas_f (xs : List Int) (x : Int) (hl : xs.length ≤ 9223372036854775806) {k : Nat} (hk : xs.length < k) : GCO.trestleref01_Has.f k xs x = some (has xs x) := by
  unfold GCO.trestleref01_Has.f
  have := refHas_loop xs x hl k 0 (Nat.zero_le _) (by omega)
  simpa using this
/-- A row among three others: what it leads to is none of these. -/
def Q3 (P : Nat → Prop) (H B : Nat) (o1 o2 o3 : Value) (k : Nat) : Prop := ((P k ∧ k < H) ∨ B ≤ k) ∧ some k ≠ o1.ownBlock ∧ some k ≠ o2.ownBlock ∧ some k ≠ o3.ownBlock
def N4 (P : Nat → Prop) (H B : Nat) (W : World) (v o1 o2 o3 : Value) (xs : List (List Int)) : Prop := Kd.N kClause 43 W B (Q3 P H B o1 o2 o3) v xs
theorem N4.below {P : Nat → Prop} {H B : Nat} {W W1 : World} {v o1 o2 o3 : Value} {xs : List (List Int)} (h : N4 P H B W v o1 o2 o3 xs) (hb : Below W.heap.size W W1) : N4 P H B W1 v o1 o2 o3 xs := Kd.N_below h hb
theorem N4.alloc {P : Nat → Prop} {H B : Nat} {W : World} {v o1 o2 o3 : Value} {xs : List (List Int)} (h : N4 P H B W v o1 o2 o3 xs) (o : Obj) : N4 P H B (W.alloc o) v o1 o2 o3 xs := Kd.N_alloc h o
theorem N4.rot {P : Nat → Prop} {H B : Nat} {W : World} {v o1 o2 o3 : Value} {xs : List (List Int)} (h : N4 P H B W v o1 o2 o3 xs) : N4 P H B W v o2 o3 o1 xs := Kd.N_mono h fun k hk => ⟨hk.1, hk.2.2.1, hk.2.2.2, hk.2.1⟩
theorem N4.swap {P : Nat → Prop} {H B : Nat} {W : World} {v o1 o2 o3 : Value} {xs : List (List Int)} (h : N4 P H B W v o1 o2 o3 xs) : N4 P H B W v o2 o1 o3 xs := Kd.N_mono h fun k hk => ⟨hk.1, hk.2.2.1, hk.2.1, hk.2.2.2⟩
/-- The first of the others has been appended to. -/
theorem N4.after {P : Nat → Prop} {H B : Nat} {W w1 : World} {v o1 o2 o3 u : Value} {xs : List (List Int)} (h : N4 P H B W v o1 o2 o3 xs) (hg : W.grownBy w1 o1.ownBlock) (hat : u.ownBlock = o1.ownBlock ∨ ∃ b, u.ownBlock = some b ∧ W.heap.size ≤ b) : N4 P H B w1 v u o2 o3 xs :=
  Kd.N_mono (Kd.N_after (Kd.N_mono h (ok' := fun k => (((P k ∧ k < H) ∨ B ≤ k) ∧ some k ≠ o2.ownBlock ∧ some k ≠ o3.ownBlock) ∧ some k ≠ o1.ownBlock) fun k hk => ⟨⟨hk.1, hk.2.2.1, hk.2.2.2⟩, hk.2.1⟩) hg hat) fun k hk => ⟨hk.1.1, hk.2, hk.1.2.1, hk.1.2.2⟩
theorem N4.fresh {P : Nat → Prop} {H B : Nat} {W : World} {o1 o2 o3 : Value} {x1 x2 x3 : List (List Int)} {a1 b1 c1 a2 b2 c2 a3 b3 c3 : Value} (hB : B ≤ W.heap.size) (h1 : N4 P H B W o1 a1 b1 c1 x1) (h2 : N4 P H B W o2 a2 b2 c2 x2) (h3 : N4 P H B W o3 a3 b3 c3 x3) : ∀ k, W.heap.size ≤ k → Q3 P H B o1 o2 o3 k := fun k hk =>
  ⟨.inr (Nat.le_trans hB hk), fun e => by have := Kd.N_lt h1 k e.symm; omega, fun e => by have := Kd.N_lt h2 k e.symm; omega, fun e => by have := Kd.N_lt h3 k e.symm; omega⟩
theorem N4.old {P : Nat → Prop} {H B : Nat} {W : World} {v o1 o2 o3 : Value} {x x1 x2 x3 : List (List Int)} {a b c a1 b1 c1 a2 b2 c2 a3 b3 c3 : Value} (hB : H ≤ B) (h : N4 P H B W v a b c x) (h1 : N4 P H B W o1 a1 b1 c1 x1) (h2 : N4 P H B W o2 a2 b2 c2 x2) (h3 : N4 P H B W o3 a3 b3 c3 x3) : ∀ k, (P k ∧ k < H) → Q3 P H B o1 o2 o3 k ∧ some k ≠ v.ownBlock := fun k hk =>
  ⟨⟨.inl hk, fun e => by have := Kd.N_base h1 k e.symm; have := hk.2; omega, fun e => by have := Kd.N_base h2 k e.symm; have := hk.2; omega, fun e => by have := Kd.N_base h3 k e.symm; have := hk.2; omega⟩, fun e => by have := Kd.N_base h k e.symm; have := hk.2; omega⟩
theorem cell_keepO {w : World} {a : Addr} {u : Value} {o : Obj} (h : w.cell? a = some u) : (w.alloc o).cell? a = some u := by rw [World.cell?_alloc_lt _ _ _ (World.block_lt_of_cell? w a h)]; exact h

theorem refHas_quiet {A : Option Addr} {n c : Nat} {xs : List Int} {x : Int} {b : Bool} {w : World} (hn : n = xs.length) (hr : Kd.C (Kd.int .i64) w A n xs) (hc : n ≤ c) (hl : n ≤ 9223372036854775806) (hb : has xs x = b) (m : Nat) :
    Calls Try.prog 47 #[.slice A n c, .int .i64 x] (w.drewN m) fun e w' => e = .returned (.bool b) ∧ ∃ k, w' = w.drewN k := by
  subst hn
  rw [← hb]
  exact (GCO.trestleref01_Has.calls (xs.length + 1) A c xs x _ (w.drewN m) (Kd.C_below hr (pw_below_drewN (Below.refl _ _) m)) hc (refHas_f xs x hl (by omega))).mono fun e w' h => ⟨h.1, by obtain ⟨k, hk⟩ := h.2.out; exact ⟨m + k, by rw [hk, World.drewN_drewN]⟩⟩

theorem N4.far {P : Nat → Prop} {H : Nat} {W : World} {v o1 o2 o3 : Value} {xs : List (List Int)} (h : N4 P H (H + 2) W v o1 o2 o3 xs) {b : Nat} (hb : b = H + 1) (i : Nat) (u : Value) : N4 P H (H + 2) (W.setCell ⟨b, i, none⟩ u) v o1 o2 o3 xs :=
  Kd.N_far h (p := ⟨b, i, none⟩) (fun k hk => by rcases hk.1 with h1 | h1 <;> show k ≠ b <;> omega) u

/-- What taking a variable out hands back. -/
def OutPost (ls : List (List Int)) (v : Int) (w : World) (e : Ending) (w' : World) : Prop :=
  (outR ls v = none ∧ e = .returned (.tuple #[.slice none 0 0, .agg #[.int .i64 0, .slice none 0 0], .bool false]) ∧ Below w.heap.size w w') ∨
  ∃ nx X d G cg, outR ls v = some nx ∧ e = .returned (.tuple #[.slice X (tidyv nx).length d, .agg #[.int .i64 v, .slice G (gonev ls v).length cg], .bool (decide (((tidyv nx).length : Int) ≤ 524288))]) ∧ (tidyv nx).length ≤ d ∧ Kd.C kClause w' X (tidyv nx).length (tidyv nx) ∧ (gonev ls v).length ≤ cg ∧ Kd.C kClause w' G (gonev ls v).length (gonev ls v) ∧ Below w.heap.size w w'

set_option maxRecDepth 100000 in
set_option maxHeartbeats 8000000 in
theorem refOut_calls (P : Nat → Prop) (A : Option Addr) (n c : Nat) (ls : List (List Int)) (v : Int) (w : World) (hn : n = ls.length) (hs : Kd.F kClause w P A n ls) (hc : n ≤ c) (hg : ∀ l ∈ ls, Good l) (hv : LitOk v) (hmax : n ≤ 100000)
    (hres : ∀ a ∈ ls, ∀ b ∈ ls, ∃ k, GCO.trestleref01_Resolve.f k a b v = some (resv a b v)) (htd : ∀ x, (∀ c ∈ x, Good c) → x.length ≤ 4398046511104 → ∃ k, GCO.trestleref19_tidy.f k x = some (tidyv x)) :
    Calls Try.prog 25 #[.slice A n c, .int .i64 v] w (OutPost ls v w) := by
  have HF := Aside0.mk (Kd.F_bound hs)
  have HG := Aside0.mk hg
  have HV := Aside0.mk hv
  have HRS := Aside0.mk hres
  have HTD := Aside0.mk htd
  have HN := Aside0.mk hn
  obtain ⟨hv1, hv2⟩ := hv.2
  have hneg : IntKind.i64.wrap (-v) = -v := by rw [IntKind.wrap_i64]; omega
  obtain ⟨w0, hw0⟩ : ∃ w0, w0 = (w.alloc (.cells #[.int .i64 0, .slice none 0 0] 29)).alloc (.cells #[.int .i64 v, .slice none 0 0] 29) := ⟨_, rfl⟩
  have HW0 := Aside0.mk hw0
  clear hs hg hv hres htd hn hw0
  go_enter Try.func25, Try.ntmps25
  go_wp2
  rw [← HW0.out]
  obtain ⟨H, hH⟩ : ∃ H, H = w.heap.size := ⟨_, rfl⟩
  obtain ⟨b, hb⟩ : ∃ b, b = H + 1 := ⟨_, rfl⟩
  rw [← hH, ← hb]
  have HK5 := Aside0.mk (show w0.heap[H]? = some (.cells #[.int .i64 0, .slice none 0 0] 29 (0, 0)) by rw [HW0.out, hH]; exact blk_alloc (heap_alloc_new w _) _)
  have HK10 := Aside0.mk (show w0.heap[b]? = some (.cells #[.int .i64 v, .slice none 0 0] 29 (0, 0)) by
    rw [HW0.out, hb, hH]
    have := heap_alloc_new (w.alloc (.cells #[.int .i64 0, .slice none 0 0] 29)) (.cells #[.int .i64 v, .slice none 0 0] 29)
    simpa using this)
  have HBW := Aside0.mk (show Below w.heap.size w w0 by rw [HW0.out]; exact below_alloc (below_alloc (Below.refl _ _) _) _)
  have HSZ := Aside0.mk (show w0.heap.size = H + 2 by rw [HW0.out, hH]; simp)
  have HHE := Aside0.mk hH
  have HBE := Aside0.mk hb
  clear hH hb
  go_loopg [7, 8, 9, 11] (n + 1) (fun kq v7 v8 v9 v11 wr => ∃ (i : Nat) (ug : Value), v11 = .int .i64 (i : Int) ∧ i ≤ n ∧ Aside0 (n < kq + i) ∧ Aside0 (N4 P H (H + 2) wr v7 v8 v9 ug (restv (ls.take i) v)) ∧ Aside0 (N4 P H (H + 2) wr v8 v7 v9 ug (withv (ls.take i) v)) ∧ Aside0 (N4 P H (H + 2) wr v9 v7 v8 ug (agnv (ls.take i) v)) ∧ Aside0 (N4 P H (H + 2) wr ug v7 v8 v9 (gonev (ls.take i) v)) ∧ Aside0 (wr.heap[H]? = some (.cells #[.int .i64 0, .slice none 0 0] 29 (0, 0))) ∧ Aside0 (wr.heap[b]? = some (.cells #[.int .i64 v, ug] 29 (0, 0))) ∧ Aside0 (Below H w wr))
  case atStart => exact ⟨0, _, rfl, Nat.zero_le _, ⟨by omega⟩, ⟨Kd.N_nil _ _ _ _ _⟩, ⟨Kd.N_nil _ _ _ _ _⟩, ⟨Kd.N_nil _ _ _ _ _⟩, ⟨Kd.N_nil _ _ _ _ _⟩, HK5, HK10, ⟨by rw [HHE.out]; exact HBW.out⟩⟩
  case round =>
    obtain ⟨i, ug, rfl, hi, HK, HO7, HO8, HO9, HOg, HX5, HX10, HB⟩ := hrel
    have HSR := Aside0.mk (show H + 2 ≤ wr.heap.size by have := blk_lt HX10.out; have := HBE.out; omega)
    cases gk with
    | zero => exact absurd HK.out (by omega)
    | succ k =>
      by_cases hlt : i < n
      · have HFr : Aside0 (Kd.F kClause wr (fun k => P k ∧ k < H) A n ls) := ⟨by
          have := Kd.F_step HF.out (W1 := wr) (fun k hk _ => HB.out.block k (by have := hk.2; have := HHE.out; omega))
          rwa [← HHE.out] at this⟩
        obtain ⟨ad, A0, c0, l, e, hgl, hcl, hlc, hFl⟩ := at_rowsF HFr.out i hlt
        cases e
        have hgd := HG.out l (List.mem_of_getElem? hgl)
        have HADL := Aside0.mk (show (ad.add i).block < H by
          obtain ⟨ad', _, _, _, e', _, hcl0, _⟩ := at_rowsF HF.out i hlt
          cases e'
          have := World.block_lt_of_cell? w _ hcl0
          rw [HHE.out]; exact this)
        obtain ⟨q, hq⟩ : ∃ q, q = l.length := ⟨_, rfl⟩
        have hql : q ≤ 16384 := by have := hgd.1; omega
        rw [← hq] at hcl hlc hFl
        have HFK := Aside0.mk (show Kd.FK kClause wr (fun k => P k ∧ k < H) l [.slice A0 q c0] by have := Kd.FK_slice_mk (e := 3) (show l.length ≤ c0 by omega) (show Kd.F (Kd.int .i64) wr (fun k => P k ∧ k < H) A0 l.length l by rw [← hq]; exact hFl); rwa [← hq] at this)
        have HT7 := Aside0.mk (show restv (ls.take (i + 1)) v = if (!has l v && !has l (-v)) then restv (ls.take i) v ++ [l] else restv (ls.take i) v from filter_take hgl)
        have HT8 := Aside0.mk (show withv (ls.take (i + 1)) v = if has l v then withv (ls.take i) v ++ [l] else withv (ls.take i) v from filter_take hgl)
        have HT9 := Aside0.mk (show agnv (ls.take (i + 1)) v = if (!has l v && has l (-v)) then agnv (ls.take i) v ++ [l] else agnv (ls.take i) v from filter_take hgl)
        have HTg := Aside0.mk (show gonev (ls.take (i + 1)) v = if (has l v || has l (-v)) then gonev (ls.take i) v ++ [l] else gonev (ls.take i) v from filter_take hgl)
        have HL7 := Aside0.mk (show (restv (ls.take i) v).length ≤ i from filter_take_le _ _ _)
        have HL8 := Aside0.mk (show (withv (ls.take i) v).length ≤ i from filter_take_le _ _ _)
        have HL9 := Aside0.mk (show (agnv (ls.take i) v).length ≤ i from filter_take_le _ _ _)
        have HLg := Aside0.mk (show (gonev (ls.take i) v).length ≤ i from filter_take_le _ _ _)
        rcases hb1 : has l v with _ | _
        · rcases hb2 : has l (-v) with _ | _
          · skip
            have HQ1 := Aside0.mk (fun m => refHas_quiet hq (Kd.F_now hFl) hlc (by omega) hb1 m)
            have HQ2 := Aside0.mk (fun m => refHas_quiet hq (Kd.F_now hFl) hlc (by omega) hb2 m)
            rw [hb1, hb2] at HT7 HT9 HTg
            rw [hb1] at HT8
            simp only [Bool.not_true, Bool.not_false, Bool.and_true, Bool.and_false, Bool.true_and, Bool.false_and, Bool.or_true, Bool.or_false, Bool.true_or, Bool.false_or, if_true, if_false, reduceIte] at HT7 HT8 HT9 HTg
            have hd : decide (i < n) = true := decide_eq_true hlt
            have hd1 : decide ((i : Int) < (n : Int)) = true := decide_eq_true (by omega)
            have hg0 : (0 : Int) ≤ (i : Int) := by omega
            have hg1 : (i : Int) < (n : Int) := by omega
            have hx10 := blk_cell HX10.out 1
            clear hgl hgd hlc hFl hb1 hb2 hq
            go_wp2
            go_quiet ((go_at_call 47; first | (with_reducible exact HQ1.out _) | (with_reducible exact HQ2.out _)))
            generalize hWq : World.drewN _ _ = wq
            have hBq : Below wr.heap.size wr wq := by rw [← hWq]; exact pw_below_drewN (Below.refl _ _) _
            have I7 := Aside0.mk (HO7.out.below hBq)
            have I8 := Aside0.mk (HO8.out.below hBq)
            have I9 := Aside0.mk (HO9.out.below hBq)
            have Ig := Aside0.mk (HOg.out.below hBq)
            have IX5 := Aside0.mk (blk_below HX5.out hBq)
            have IX10 := Aside0.mk (blk_below HX10.out hBq)
            have IFK := Aside0.mk (Kd.FK_below HFK.out hBq)
            have IS := Aside0.mk (Nat.le_trans HSR.out hBq.size)
            have IB := Aside0.mk (HB.out.trans (hBq.mono (show H ≤ wr.heap.size by have := HSR.out; omega)))
            have hclq := pw_cell_below hBq hcl
            have hx10q := pw_cell_below hBq hx10
            clear hWq hBq hcl hx10
            go_wp2_with (at_builtin; refine Kd.N_append kClause (H + 2) rfl (.tmp 55) (.tmp 60) 22 43 (.slice none 0 0) 24 rfl Try.underlying22 info43 rfl (by decide) (by omega) u7 (restv (ls.take i) v) l [.slice A0 q c0] (Q3 P H (H + 2) u8 u9 ug) (fun k => P k ∧ k < H) rfl rfl IFK.out (N4.old (Nat.le_add_right _ _) I7.out I8.out I9.out Ig.out) (N4.fresh IS.out I8.out I9.out Ig.out) I7.out (Below.refl _ _) IS.out (by have := HL7.out; omega) ?_; intro vx w8 hN hb8 hg8 hat8; have J8 := Aside0.mk (N4.after (I8.out) hg8 hat8); have J9 := Aside0.mk (N4.after (I9.out) hg8 hat8); have Jg := Aside0.mk (N4.after (Ig.out) hg8 hat8); have J7 := Aside0.mk (show N4 P H (H + 2) w8 vx u8 u9 ug (restv (ls.take i) v ++ [l]) from hN); have JX5 := Aside0.mk (blk_grown IX5.out hg8 (Kd.N_ne I7.out IX5.out (by decide))); have JX10 := Aside0.mk (blk_grown IX10.out hg8 (Kd.N_ne I7.out IX10.out (by decide))); have JFK := Aside0.mk (Kd.FK_grown IFK.out hg8 (fun k hk e => by have := Kd.N_base I7.out k e.symm; have := hk.2; omega)); have JS := Aside0.mk (Nat.le_trans IS.out hg8.size); have JB := Aside0.mk (IB.out.trans (hb8.mono (Nat.le_add_right H 2))); have hcl8 : w8.cell? (ad.add i) = some (.slice A0 q c0) := (hb8.cell (p := ad.add i) (by have := HADL.out; omega)).trans hclq; have hx8 : w8.cell? ⟨b, 1, none⟩ = some ug := blk_cell JX10.out 1; clear hN hb8 hg8 hat8 hclq hx10q)
            go_roundg k
            case measure => omega
            case rel => exact ⟨i + 1, _, by go_num, by omega, ⟨by have := HK.out; omega⟩, ⟨by rw [HT7.out]; exact J7.out⟩, ⟨by rw [HT8.out]; exact J8.out⟩, ⟨by rw [HT9.out]; exact J9.out⟩, ⟨by rw [HTg.out]; exact Jg.out⟩, JX5, JX10, JB⟩
          · skip
            have HQ1 := Aside0.mk (fun m => refHas_quiet hq (Kd.F_now hFl) hlc (by omega) hb1 m)
            have HQ2 := Aside0.mk (fun m => refHas_quiet hq (Kd.F_now hFl) hlc (by omega) hb2 m)
            rw [hb1, hb2] at HT7 HT9 HTg
            rw [hb1] at HT8
            simp only [Bool.not_true, Bool.not_false, Bool.and_true, Bool.and_false, Bool.true_and, Bool.false_and, Bool.or_true, Bool.or_false, Bool.true_or, Bool.false_or, if_true, if_false, reduceIte] at HT7 HT8 HT9 HTg
            have hd : decide (i < n) = true := decide_eq_true hlt
            have hd1 : decide ((i : Int) < (n : Int)) = true := decide_eq_true (by omega)
            have hg0 : (0 : Int) ≤ (i : Int) := by omega
            have hg1 : (i : Int) < (n : Int) := by omega
            have hx10 := blk_cell HX10.out 1
            clear hgl hgd hlc hFl hb1 hb2 hq
            go_wp2
            go_quiet ((go_at_call 47; first | (with_reducible exact HQ1.out _) | (with_reducible exact HQ2.out _)))
            generalize hWq : World.drewN _ _ = wq
            have hBq : Below wr.heap.size wr wq := by rw [← hWq]; exact pw_below_drewN (Below.refl _ _) _
            have I7 := Aside0.mk (HO7.out.below hBq)
            have I8 := Aside0.mk (HO8.out.below hBq)
            have I9 := Aside0.mk (HO9.out.below hBq)
            have Ig := Aside0.mk (HOg.out.below hBq)
            have IX5 := Aside0.mk (blk_below HX5.out hBq)
            have IX10 := Aside0.mk (blk_below HX10.out hBq)
            have IFK := Aside0.mk (Kd.FK_below HFK.out hBq)
            have IS := Aside0.mk (Nat.le_trans HSR.out hBq.size)
            have IB := Aside0.mk (HB.out.trans (hBq.mono (show H ≤ wr.heap.size by have := HSR.out; omega)))
            have hclq := pw_cell_below hBq hcl
            have hx10q := pw_cell_below hBq hx10
            clear hWq hBq hcl hx10
            go_wp2_with (at_builtin; refine Kd.N_append kClause (H + 2) rfl (.tmp 48) (.tmp 53) 22 43 (.slice none 0 0) 24 rfl Try.underlying22 info43 rfl (by decide) (by omega) u9 (agnv (ls.take i) v) l [.slice A0 q c0] (Q3 P H (H + 2) u7 u8 ug) (fun k => P k ∧ k < H) rfl rfl IFK.out (N4.old (Nat.le_add_right _ _) I9.out I7.out I8.out Ig.out) (N4.fresh IS.out I7.out I8.out Ig.out) I9.out (Below.refl _ _) IS.out (by have := HL9.out; omega) ?_; intro vx w8 hN hb8 hg8 hat8; have J7 := Aside0.mk (N4.swap (N4.after (N4.swap (I7.out)) hg8 hat8)); have J8 := Aside0.mk (N4.swap (N4.after (N4.swap (I8.out)) hg8 hat8)); have Jg := Aside0.mk (N4.rot (N4.after (N4.rot (N4.rot (Ig.out))) hg8 hat8)); have J9 := Aside0.mk (show N4 P H (H + 2) w8 vx u7 u8 ug (agnv (ls.take i) v ++ [l]) from hN); have JX5 := Aside0.mk (blk_grown IX5.out hg8 (Kd.N_ne I9.out IX5.out (by decide))); have JX10 := Aside0.mk (blk_grown IX10.out hg8 (Kd.N_ne I9.out IX10.out (by decide))); have JFK := Aside0.mk (Kd.FK_grown IFK.out hg8 (fun k hk e => by have := Kd.N_base I9.out k e.symm; have := hk.2; omega)); have JS := Aside0.mk (Nat.le_trans IS.out hg8.size); have JB := Aside0.mk (IB.out.trans (hb8.mono (Nat.le_add_right H 2))); have hcl8 : w8.cell? (ad.add i) = some (.slice A0 q c0) := (hb8.cell (p := ad.add i) (by have := HADL.out; omega)).trans hclq; have hx8 : w8.cell? ⟨b, 1, none⟩ = some ug := blk_cell JX10.out 1; clear hN hb8 hg8 hat8 hclq hx10q)
            refine start_ (n := 10) (S := fun w' => w'.cell? ⟨b, 1, none⟩ = some ug ∧ w'.cell? (ad.add i) = some (.slice A0 q c0)) (ds := [9]) #[false, false, false, false, false, false, false, false, false, false] (by kernel_rfl) rfl rfl ⟨hx8, hcl8⟩ (fun hHeld => ?_)
            refine pure_ (i := 0) (N := (some 66)) (v := ?_) (a' := ?_) #[true, false, false, false, false, false, false, false, false, false] rfl rfl (by kernel_rfl) (fun _ _ _ h => h) (Or.inl ⟨by rfl, ?_⟩) ?_ ?_
            rotate_left
            · intro w'
              go_simp
              with_reducible rfl
            rotate_left
            · simp only [Act.put, List.setIfInBounds_toArray, List.set_cons_zero, List.set_cons_succ, i64_w, i32_w]
              rfl
            refine take_ (i := 1) (N := (some 67)) (v := ?_) (a' := ?_) #[true, true, false, false, false, false, false, false, false, false] rfl rfl (by kernel_rfl) (fun _ _ _ h => h) (Or.inl ⟨by rfl, ?_⟩) hHeld ?_ ?_
            rotate_left
            · rintro w' ⟨s0, s1⟩
              go_simp
              with_reducible rfl
            rotate_left
            · simp only [Act.put, List.setIfInBounds_toArray, List.set_cons_zero, List.set_cons_succ, i64_w, i32_w]
              rfl
            refine pure_ (i := 2) (N := (some 68)) (v := ?_) (a' := ?_) #[true, true, true, false, false, false, false, false, false, false] rfl rfl (by kernel_rfl) (fun _ _ _ h => h) (Or.inl ⟨by rfl, ?_⟩) ?_ ?_
            rotate_left
            · intro w'
              go_simp
              with_reducible rfl
            rotate_left
            · simp only [Act.put, List.setIfInBounds_toArray, List.set_cons_zero, List.set_cons_succ, i64_w, i32_w]
              rfl
            refine pure_ (i := 3) (N := (some 69)) (v := ?_) (a' := ?_) #[true, true, true, true, false, false, false, false, false, false] rfl rfl (by kernel_rfl) (fun _ _ _ h => h) (Or.inl ⟨by rfl, ?_⟩) ?_ ?_
            rotate_left
            · intro w'
              go_simp
              with_reducible rfl
            rotate_left
            · simp only [Act.put, List.setIfInBounds_toArray, List.set_cons_zero, List.set_cons_succ, i64_w, i32_w]
              rfl
            refine pure_ (i := 4) (N := (some 70)) (v := ?_) (a' := ?_) #[true, true, true, true, true, false, false, false, false, false] rfl rfl (by kernel_rfl) (fun _ _ _ h => h) (Or.inl ⟨by rfl, ?_⟩) ?_ ?_
            rotate_left
            · intro w'
              go_simp
              with_reducible rfl
            rotate_left
            · simp only [Act.put, List.setIfInBounds_toArray, List.set_cons_zero, List.set_cons_succ, i64_w, i32_w]
              rfl
            refine take_ (i := 5) (N := (some 71)) (v := ?_) (a' := ?_) #[true, true, true, true, true, true, false, false, false, false] rfl rfl (by kernel_rfl) (fun _ _ _ h => h) (Or.inl ⟨by rfl, ?_⟩) hHeld ?_ ?_
            rotate_left
            · rintro w' ⟨s0, s1⟩
              go_simp
              with_reducible rfl
            rotate_left
            · simp only [Act.put, List.setIfInBounds_toArray, List.set_cons_zero, List.set_cons_succ, i64_w, i32_w]
              rfl
            refine one_ (i := 6) (N := (some 72)) #[true, true, true, true, true, true, true, false, false, false] rfl rfl (by kernel_rfl) (by decide) (fun K hK => ?_)
            refine value_ (w1 := ?_) (v := ?_) (by rfl) rfl ?_ ?_
            rotate_left 2
            · go_simp
              constructor
              · rfl
              · rfl
            refine hK.out _ _ ⟨cell_keepO hx8, cell_keepO hcl8⟩ (fun hHeld => ?_)
            clear hK K
            refine norm_ (a' := ?_) ?_ ?_
            rotate_left
            · show Act.put _ (some 72) _ = _
              simp only [Act.put, List.setIfInBounds_toArray, List.set_cons_zero, List.set_cons_succ, i64_w, i32_w]
              rfl
            refine one_ (i := 7) (N := (some 73)) #[true, true, true, true, true, true, true, true, false, false] rfl rfl (by kernel_rfl) (by decide) (fun K hK => ?_)
            refine Kd.N_append_step kClause (w0 := w8.drew) (W := w8.drew) (H + 2) (by rfl) (.tmp 67) (.tmp 72) 22 43 (.slice none 0 0) 24 rfl Try.underlying22 info43 rfl (by decide) (by omega) ug (gonev (ls.take i) v) l [.slice A0 q c0] (Q3 P H (H + 2) u7 u8 vx) (fun k => P k ∧ k < H) rfl rfl (Kd.FK_below JFK.out (below_drew (Below.refl _ _))) (N4.old (Nat.le_add_right _ _) Jg.out J7.out J8.out J9.out) (N4.fresh JS.out J7.out J8.out J9.out) (Kd.N_drew Jg.out) (Below.refl _ _) JS.out (by have := HLg.out; omega) ?_
            intro vg w9 hN hb9 hg9 hat9
            obtain ⟨Xg, dg, e2⟩ := Kd.N_slice hN
            obtain ⟨mg, hmg⟩ : ∃ m, m = (gonev (ls.take i) v ++ [l]).length := ⟨_, rfl⟩
            rw [← hmg] at e2
            subst e2
            clear hmg
            have L7 := Aside0.mk (N4.rot (N4.after (N4.rot (N4.rot ((N4.below J7.out (below_drew (Below.refl _ _)))))) hg9 hat9))
            have L8 := Aside0.mk (N4.rot (N4.after (N4.rot (N4.rot ((N4.below J8.out (below_drew (Below.refl _ _)))))) hg9 hat9))
            have L9 := Aside0.mk (N4.rot (N4.after (N4.rot (N4.rot ((N4.below J9.out (below_drew (Below.refl _ _)))))) hg9 hat9))
            have Lg := Aside0.mk (show N4 P H (H + 2) w9 (.slice Xg mg dg) u7 u8 vx (gonev (ls.take i) v ++ [l]) from hN)
            have hX5 := blk_grown (blk_drew JX5.out) hg9 (Kd.N_ne Jg.out JX5.out (by decide))
            have hX10 := blk_grown (blk_drew JX10.out) hg9 (Kd.N_ne Jg.out JX10.out (by decide))
            have LX5 := Aside0.mk hX5
            have LX10 := Aside0.mk hX10
            have LB := Aside0.mk (JB.out.trans (((below_drew (Below.refl w8.heap.size w8)).mono (show H ≤ w8.heap.size by have := JS.out; omega)).trans (hb9.mono (Nat.le_add_right H 2))))
            have hcl9 : w9.cell? (ad.add i) = some (.slice A0 q c0) := (hb9.cell (p := ad.add i) (by have := HADL.out; omega)).trans hcl8
            have hx9 : w9.cell? ⟨b, 1, none⟩ = some ug := blk_cell hX10 1
            have hf9 := blk_frozen hX10 1
            clear hN hb9 hg9 hat9 hX5 hX10
            refine hK.out _ _ ⟨hx9, hcl9⟩ (fun hHeld => ?_)
            clear hK K
            refine norm_ (a' := ?_) ?_ ?_
            rotate_left
            · show Act.put _ (some 73) _ = _
              simp only [Act.put, List.setIfInBounds_toArray, List.set_cons_zero, List.set_cons_succ, i64_w, i32_w]
              rfl
            refine pure_ (i := 8) (N := (some 74)) (v := ?_) (a' := ?_) #[true, true, true, true, true, true, true, true, true, false] rfl rfl (by kernel_rfl) (fun _ _ _ h => h) (Or.inl ⟨by rfl, ?_⟩) ?_ ?_
            rotate_left
            · intro w'
              go_simp
              with_reducible rfl
            rotate_left
            · simp only [Act.put, List.setIfInBounds_toArray, List.set_cons_zero, List.set_cons_succ, i64_w, i32_w]
              rfl
            refine last_ (i := 9) (N := none) #[true, true, true, true, true, true, true, true, true, true] rfl rfl (by kernel_rfl) (by decide) (fun K hK => ?_)
            refine skip_ (w1 := ?_) (by rfl) rfl ?_ ?_
            rotate_left
            · go_simp
              rfl
            refine hK.out _ _ ?_
            clear hK K
            refine done_ (by kernel_rfl) ?_
            try go_wp2
            go_roundg k
            case measure => omega
            case rel => exact ⟨i + 1, _, by go_num, by omega, ⟨by have := HK.out; omega⟩, ⟨by rw [HT7.out]; exact L7.out.far HBE.out 1 _⟩, ⟨by rw [HT8.out]; exact L8.out.far HBE.out 1 _⟩, ⟨by rw [HT9.out]; exact L9.out.far HBE.out 1 _⟩, ⟨by rw [HTg.out]; exact Lg.out.far HBE.out 1 _⟩, ⟨(Below.heap_setCell w9 ⟨b, 1, none⟩ _ H (by have := HBE.out; show H ≠ b; omega)).trans LX5.out⟩, ⟨blk_put LX10.out 1 _ rfl⟩, ⟨LB.out.setCell (show H ≤ b by have := HBE.out; omega) _⟩⟩
        · rcases hb2 : has l (-v) with _ | _
          all_goals
            have HQ1 := Aside0.mk (fun m => refHas_quiet hq (Kd.F_now hFl) hlc (by omega) hb1 m)
            have HQ2 := Aside0.mk (fun m => refHas_quiet hq (Kd.F_now hFl) hlc (by omega) hb2 m)
            rw [hb1, hb2] at HT7 HT9 HTg
            rw [hb1] at HT8
            simp only [Bool.not_true, Bool.not_false, Bool.and_true, Bool.and_false, Bool.true_and, Bool.false_and, Bool.or_true, Bool.or_false, Bool.true_or, Bool.false_or, if_true, if_false, reduceIte] at HT7 HT8 HT9 HTg
            have hd : decide (i < n) = true := decide_eq_true hlt
            have hd1 : decide ((i : Int) < (n : Int)) = true := decide_eq_true (by omega)
            have hg0 : (0 : Int) ≤ (i : Int) := by omega
            have hg1 : (i : Int) < (n : Int) := by omega
            have hx10 := blk_cell HX10.out 1
            clear hgl hgd hlc hFl hb1 hb2 hq
            go_wp2
            go_quiet ((go_at_call 47; first | (with_reducible exact HQ1.out _) | (with_reducible exact HQ2.out _)))
            generalize hWq : World.drewN _ _ = wq
            have hBq : Below wr.heap.size wr wq := by rw [← hWq]; exact pw_below_drewN (Below.refl _ _) _
            have I7 := Aside0.mk (HO7.out.below hBq)
            have I8 := Aside0.mk (HO8.out.below hBq)
            have I9 := Aside0.mk (HO9.out.below hBq)
            have Ig := Aside0.mk (HOg.out.below hBq)
            have IX5 := Aside0.mk (blk_below HX5.out hBq)
            have IX10 := Aside0.mk (blk_below HX10.out hBq)
            have IFK := Aside0.mk (Kd.FK_below HFK.out hBq)
            have IS := Aside0.mk (Nat.le_trans HSR.out hBq.size)
            have IB := Aside0.mk (HB.out.trans (hBq.mono (show H ≤ wr.heap.size by have := HSR.out; omega)))
            have hclq := pw_cell_below hBq hcl
            have hx10q := pw_cell_below hBq hx10
            clear hWq hBq hcl hx10
            go_wp2_with (at_builtin; refine Kd.N_append kClause (H + 2) rfl (.tmp 40) (.tmp 45) 22 43 (.slice none 0 0) 24 rfl Try.underlying22 info43 rfl (by decide) (by omega) u8 (withv (ls.take i) v) l [.slice A0 q c0] (Q3 P H (H + 2) u7 u9 ug) (fun k => P k ∧ k < H) rfl rfl IFK.out (N4.old (Nat.le_add_right _ _) I8.out I7.out I9.out Ig.out) (N4.fresh IS.out I7.out I9.out Ig.out) I8.out (Below.refl _ _) IS.out (by have := HL8.out; omega) ?_; intro vx w8 hN hb8 hg8 hat8; have J7 := Aside0.mk (N4.after (I7.out) hg8 hat8); have J9 := Aside0.mk (N4.swap (N4.after (N4.swap (I9.out)) hg8 hat8)); have Jg := Aside0.mk (N4.swap (N4.after (N4.swap (Ig.out)) hg8 hat8)); have J8 := Aside0.mk (show N4 P H (H + 2) w8 vx u7 u9 ug (withv (ls.take i) v ++ [l]) from hN); have JX5 := Aside0.mk (blk_grown IX5.out hg8 (Kd.N_ne I8.out IX5.out (by decide))); have JX10 := Aside0.mk (blk_grown IX10.out hg8 (Kd.N_ne I8.out IX10.out (by decide))); have JFK := Aside0.mk (Kd.FK_grown IFK.out hg8 (fun k hk e => by have := Kd.N_base I8.out k e.symm; have := hk.2; omega)); have JS := Aside0.mk (Nat.le_trans IS.out hg8.size); have JB := Aside0.mk (IB.out.trans (hb8.mono (Nat.le_add_right H 2))); have hcl8 : w8.cell? (ad.add i) = some (.slice A0 q c0) := (hb8.cell (p := ad.add i) (by have := HADL.out; omega)).trans hclq; have hx8 : w8.cell? ⟨b, 1, none⟩ = some ug := blk_cell JX10.out 1; clear hN hb8 hg8 hat8 hclq hx10q)
            refine start_ (n := 10) (S := fun w' => w'.cell? ⟨b, 1, none⟩ = some ug ∧ w'.cell? (ad.add i) = some (.slice A0 q c0)) (ds := [9]) #[false, false, false, false, false, false, false, false, false, false] (by kernel_rfl) rfl rfl ⟨hx8, hcl8⟩ (fun hHeld => ?_)
            refine pure_ (i := 0) (N := (some 66)) (v := ?_) (a' := ?_) #[true, false, false, false, false, false, false, false, false, false] rfl rfl (by kernel_rfl) (fun _ _ _ h => h) (Or.inl ⟨by rfl, ?_⟩) ?_ ?_
            rotate_left
            · intro w'
              go_simp
              with_reducible rfl
            rotate_left
            · simp only [Act.put, List.setIfInBounds_toArray, List.set_cons_zero, List.set_cons_succ, i64_w, i32_w]
              rfl
            refine take_ (i := 1) (N := (some 67)) (v := ?_) (a' := ?_) #[true, true, false, false, false, false, false, false, false, false] rfl rfl (by kernel_rfl) (fun _ _ _ h => h) (Or.inl ⟨by rfl, ?_⟩) hHeld ?_ ?_
            rotate_left
            · rintro w' ⟨s0, s1⟩
              go_simp
              with_reducible rfl
            rotate_left
            · simp only [Act.put, List.setIfInBounds_toArray, List.set_cons_zero, List.set_cons_succ, i64_w, i32_w]
              rfl
            refine pure_ (i := 2) (N := (some 68)) (v := ?_) (a' := ?_) #[true, true, true, false, false, false, false, false, false, false] rfl rfl (by kernel_rfl) (fun _ _ _ h => h) (Or.inl ⟨by rfl, ?_⟩) ?_ ?_
            rotate_left
            · intro w'
              go_simp
              with_reducible rfl
            rotate_left
            · simp only [Act.put, List.setIfInBounds_toArray, List.set_cons_zero, List.set_cons_succ, i64_w, i32_w]
              rfl
            refine pure_ (i := 3) (N := (some 69)) (v := ?_) (a' := ?_) #[true, true, true, true, false, false, false, false, false, false] rfl rfl (by kernel_rfl) (fun _ _ _ h => h) (Or.inl ⟨by rfl, ?_⟩) ?_ ?_
            rotate_left
            · intro w'
              go_simp
              with_reducible rfl
            rotate_left
            · simp only [Act.put, List.setIfInBounds_toArray, List.set_cons_zero, List.set_cons_succ, i64_w, i32_w]
              rfl
            refine pure_ (i := 4) (N := (some 70)) (v := ?_) (a' := ?_) #[true, true, true, true, true, false, false, false, false, false] rfl rfl (by kernel_rfl) (fun _ _ _ h => h) (Or.inl ⟨by rfl, ?_⟩) ?_ ?_
            rotate_left
            · intro w'
              go_simp
              with_reducible rfl
            rotate_left
            · simp only [Act.put, List.setIfInBounds_toArray, List.set_cons_zero, List.set_cons_succ, i64_w, i32_w]
              rfl
            refine take_ (i := 5) (N := (some 71)) (v := ?_) (a' := ?_) #[true, true, true, true, true, true, false, false, false, false] rfl rfl (by kernel_rfl) (fun _ _ _ h => h) (Or.inl ⟨by rfl, ?_⟩) hHeld ?_ ?_
            rotate_left
            · rintro w' ⟨s0, s1⟩
              go_simp
              with_reducible rfl
            rotate_left
            · simp only [Act.put, List.setIfInBounds_toArray, List.set_cons_zero, List.set_cons_succ, i64_w, i32_w]
              rfl
            refine one_ (i := 6) (N := (some 72)) #[true, true, true, true, true, true, true, false, false, false] rfl rfl (by kernel_rfl) (by decide) (fun K hK => ?_)
            refine value_ (w1 := ?_) (v := ?_) (by rfl) rfl ?_ ?_
            rotate_left 2
            · go_simp
              constructor
              · rfl
              · rfl
            refine hK.out _ _ ⟨cell_keepO hx8, cell_keepO hcl8⟩ (fun hHeld => ?_)
            clear hK K
            refine norm_ (a' := ?_) ?_ ?_
            rotate_left
            · show Act.put _ (some 72) _ = _
              simp only [Act.put, List.setIfInBounds_toArray, List.set_cons_zero, List.set_cons_succ, i64_w, i32_w]
              rfl
            refine one_ (i := 7) (N := (some 73)) #[true, true, true, true, true, true, true, true, false, false] rfl rfl (by kernel_rfl) (by decide) (fun K hK => ?_)
            refine Kd.N_append_step kClause (w0 := w8.drew) (W := w8.drew) (H + 2) (by rfl) (.tmp 67) (.tmp 72) 22 43 (.slice none 0 0) 24 rfl Try.underlying22 info43 rfl (by decide) (by omega) ug (gonev (ls.take i) v) l [.slice A0 q c0] (Q3 P H (H + 2) u7 vx u9) (fun k => P k ∧ k < H) rfl rfl (Kd.FK_below JFK.out (below_drew (Below.refl _ _))) (N4.old (Nat.le_add_right _ _) Jg.out J7.out J8.out J9.out) (N4.fresh JS.out J7.out J8.out J9.out) (Kd.N_drew Jg.out) (Below.refl _ _) JS.out (by have := HLg.out; omega) ?_
            intro vg w9 hN hb9 hg9 hat9
            obtain ⟨Xg, dg, e2⟩ := Kd.N_slice hN
            obtain ⟨mg, hmg⟩ : ∃ m, m = (gonev (ls.take i) v ++ [l]).length := ⟨_, rfl⟩
            rw [← hmg] at e2
            subst e2
            clear hmg
            have L7 := Aside0.mk (N4.rot (N4.after (N4.rot (N4.rot ((N4.below J7.out (below_drew (Below.refl _ _)))))) hg9 hat9))
            have L8 := Aside0.mk (N4.rot (N4.after (N4.rot (N4.rot ((N4.below J8.out (below_drew (Below.refl _ _)))))) hg9 hat9))
            have L9 := Aside0.mk (N4.rot (N4.after (N4.rot (N4.rot ((N4.below J9.out (below_drew (Below.refl _ _)))))) hg9 hat9))
            have Lg := Aside0.mk (show N4 P H (H + 2) w9 (.slice Xg mg dg) u7 vx u9 (gonev (ls.take i) v ++ [l]) from hN)
            have hX5 := blk_grown (blk_drew JX5.out) hg9 (Kd.N_ne Jg.out JX5.out (by decide))
            have hX10 := blk_grown (blk_drew JX10.out) hg9 (Kd.N_ne Jg.out JX10.out (by decide))
            have LX5 := Aside0.mk hX5
            have LX10 := Aside0.mk hX10
            have LB := Aside0.mk (JB.out.trans (((below_drew (Below.refl w8.heap.size w8)).mono (show H ≤ w8.heap.size by have := JS.out; omega)).trans (hb9.mono (Nat.le_add_right H 2))))
            have hcl9 : w9.cell? (ad.add i) = some (.slice A0 q c0) := (hb9.cell (p := ad.add i) (by have := HADL.out; omega)).trans hcl8
            have hx9 : w9.cell? ⟨b, 1, none⟩ = some ug := blk_cell hX10 1
            have hf9 := blk_frozen hX10 1
            clear hN hb9 hg9 hat9 hX5 hX10
            refine hK.out _ _ ⟨hx9, hcl9⟩ (fun hHeld => ?_)
            clear hK K
            refine norm_ (a' := ?_) ?_ ?_
            rotate_left
            · show Act.put _ (some 73) _ = _
              simp only [Act.put, List.setIfInBounds_toArray, List.set_cons_zero, List.set_cons_succ, i64_w, i32_w]
              rfl
            refine pure_ (i := 8) (N := (some 74)) (v := ?_) (a' := ?_) #[true, true, true, true, true, true, true, true, true, false] rfl rfl (by kernel_rfl) (fun _ _ _ h => h) (Or.inl ⟨by rfl, ?_⟩) ?_ ?_
            rotate_left
            · intro w'
              go_simp
              with_reducible rfl
            rotate_left
            · simp only [Act.put, List.setIfInBounds_toArray, List.set_cons_zero, List.set_cons_succ, i64_w, i32_w]
              rfl
            refine last_ (i := 9) (N := none) #[true, true, true, true, true, true, true, true, true, true] rfl rfl (by kernel_rfl) (by decide) (fun K hK => ?_)
            refine skip_ (w1 := ?_) (by rfl) rfl ?_ ?_
            rotate_left
            · go_simp
              rfl
            refine hK.out _ _ ?_
            clear hK K
            refine done_ (by kernel_rfl) ?_
            try go_wp2
            go_roundg k
            case measure => omega
            case rel => exact ⟨i + 1, _, by go_num, by omega, ⟨by have := HK.out; omega⟩, ⟨by rw [HT7.out]; exact L7.out.far HBE.out 1 _⟩, ⟨by rw [HT8.out]; exact L8.out.far HBE.out 1 _⟩, ⟨by rw [HT9.out]; exact L9.out.far HBE.out 1 _⟩, ⟨by rw [HTg.out]; exact Lg.out.far HBE.out 1 _⟩, ⟨(Below.heap_setCell w9 ⟨b, 1, none⟩ _ H (by have := HBE.out; show H ≠ b; omega)).trans LX5.out⟩, ⟨blk_put LX10.out 1 _ rfl⟩, ⟨LB.out.setCell (show H ≤ b by have := HBE.out; omega) _⟩⟩
      · obtain rfl : i = n := by omega
        have hd : decide (i < i) = false := decide_eq_false (by omega)
        have hd1 : decide ((i : Int) < (i : Int)) = false := decide_eq_false (by omega)
        have htk : ls.take i = ls := by rw [HN.out, List.take_length]
        have h7 := HO7.out
        have h8 := HO8.out
        have h9 := HO9.out
        have hgo := HOg.out
        rw [htk] at h7 h8 h9 hgo
        clear HO7 HO8 HO9 HOg htk HK
        obtain ⟨A8, c8, e8⟩ := Kd.N_slice h8
        obtain ⟨A9, c9, e9⟩ := Kd.N_slice h9
        obtain ⟨G, cg, eg⟩ := Kd.N_slice hgo
        obtain ⟨m8, hm8⟩ : ∃ m, m = (withv ls v).length := ⟨_, rfl⟩
        obtain ⟨m9, hm9⟩ : ∃ m, m = (agnv ls v).length := ⟨_, rfl⟩
        obtain ⟨mg, hmg⟩ : ∃ m, m = (gonev ls v).length := ⟨_, rfl⟩
        rw [← hm8] at e8
        rw [← hm9] at e9
        rw [← hmg] at eg
        subst e8
        subst e9
        subst eg
        have HM8 := Aside0.mk hm8
        have HM9 := Aside0.mk hm9
        have HMG := Aside0.mk hmg
        have hl8 : m8 ≤ i := by rw [hm8, HN.out]; exact List.length_filter_le _ _
        have hl9 : m9 ≤ i := by rw [hm9, HN.out]; exact List.length_filter_le _ _
        have H7 := Aside0.mk h7
        have H8 := Aside0.mk h8
        have H9 := Aside0.mk h9
        have Hg := Aside0.mk hgo
        clear h7 h8 h9 hgo hm8 hm9 hmg
        go_wp2
        go_loopg [7, 14] (m8 + 1) (fun kq v7 v14 ws => ∃ (j : Nat) (acc : List (List Int)), v14 = .int .i64 (j : Int) ∧ j ≤ m8 ∧ Aside0 (m8 < kq + j) ∧ Aside0 (N4 P H (H + 2) ws v7 (.slice A8 m8 c8) (.slice A9 m9 c9) (.slice G mg cg) acc) ∧ Aside0 (N4 P H (H + 2) ws (.slice A8 m8 c8) v7 (.slice A9 m9 c9) (.slice G mg cg) (withv ls v)) ∧ Aside0 (N4 P H (H + 2) ws (.slice A9 m9 c9) v7 (.slice A8 m8 c8) (.slice G mg cg) (agnv ls v)) ∧ Aside0 (N4 P H (H + 2) ws (.slice G mg cg) v7 (.slice A8 m8 c8) (.slice A9 m9 c9) (gonev ls v)) ∧ Aside0 (ws.heap[H]? = some (.cells #[.int .i64 0, .slice none 0 0] 29 (0, 0))) ∧ Aside0 (ws.heap[b]? = some (.cells #[.int .i64 v, .slice G mg cg] 29 (0, 0))) ∧ Aside0 (Below H w ws) ∧ Aside0 (outR ls v = resB v (agnv ls v) ((withv ls v).drop j) acc) ∧ Aside0 (acc.length ≤ 100000 + j * 100000) ∧ Aside0 (∀ c ∈ acc, Good c))
        case atStart => exact ⟨0, _, rfl, Nat.zero_le _, ⟨by omega⟩, H7, H8, H9, Hg, HX5, HX10, HB, ⟨rfl⟩, ⟨by have h1 : (restv ls v).length ≤ ls.length := List.length_filter_le _ _; have := HN.out; omega⟩, ⟨fun c hc => HG.out c (List.mem_filter.1 hc).1⟩⟩
        case round =>
          clear H7 H8 H9 Hg HX5 HX10 HB HSR
          obtain ⟨j, acc, rfl, hj, HK, P7, P8, P9, Pg, PX5, PX10, PB, PR, PL, PG⟩ := hrel
          have PS := Aside0.mk (show H + 2 ≤ wr.heap.size by have := blk_lt PX10.out; have := HBE.out; omega)
          cases gk with
          | zero => exact absurd HK.out (by omega)
          | succ k2 =>
            by_cases hlt2 : j < m8
            · have hdj : decide (j < m8) = true := decide_eq_true hlt2
              have hdj1 : decide ((j : Int) < (m8 : Int)) = true := decide_eq_true (by omega)
              have hj0 : (0 : Int) ≤ (j : Int) := by omega
              have hj1 : (j : Int) < (m8 : Int) := by omega
              obtain ⟨a, ha⟩ : ∃ a, (withv ls v)[j]? = some a := ⟨_, List.getElem?_eq_getElem (by have := HM8.out; omega)⟩
              have HA := Aside0.mk ha
              have PRa := Aside0.mk (show outR ls v = (resA v a ((agnv ls v).drop 0) acc).bind (resB v (agnv ls v) ((withv ls v).drop (j + 1))) by
                obtain ⟨h1, h2⟩ := List.getElem?_eq_some_iff.1 ha
                rw [PR.out, List.drop_eq_getElem_cons h1, h2]
                rfl)
              have PLa := Aside0.mk (show acc.length ≤ 100000 + j * 100000 + 0 by have := PL.out; omega)
              clear ha PR PL
              go_wp2
              go_loopg [7, 15] (m9 + 1) (fun kq v7 v15 wt => ∃ (t : Nat) (acc : List (List Int)), v15 = .int .i64 (t : Int) ∧ t ≤ m9 ∧ Aside0 (m9 < kq + t) ∧ Aside0 (N4 P H (H + 2) wt v7 (.slice A8 m8 c8) (.slice A9 m9 c9) (.slice G mg cg) acc) ∧ Aside0 (N4 P H (H + 2) wt (.slice A8 m8 c8) v7 (.slice A9 m9 c9) (.slice G mg cg) (withv ls v)) ∧ Aside0 (N4 P H (H + 2) wt (.slice A9 m9 c9) v7 (.slice A8 m8 c8) (.slice G mg cg) (agnv ls v)) ∧ Aside0 (N4 P H (H + 2) wt (.slice G mg cg) v7 (.slice A8 m8 c8) (.slice A9 m9 c9) (gonev ls v)) ∧ Aside0 (wt.heap[H]? = some (.cells #[.int .i64 0, .slice none 0 0] 29 (0, 0))) ∧ Aside0 (wt.heap[b]? = some (.cells #[.int .i64 v, .slice G mg cg] 29 (0, 0))) ∧ Aside0 (Below H w wt) ∧ Aside0 (outR ls v = (resA v a ((agnv ls v).drop t) acc).bind (resB v (agnv ls v) ((withv ls v).drop (j + 1)))) ∧ Aside0 (acc.length ≤ 100000 + j * 100000 + t) ∧ Aside0 (∀ c ∈ acc, Good c))
              case atStart => exact ⟨0, _, rfl, Nat.zero_le _, ⟨by omega⟩, P7, P8, P9, Pg, PX5, PX10, PB, PRa, PLa, PG⟩
              case round =>
                clear P7 P8 P9 Pg PX5 PX10 PB PRa PLa PG PS
                obtain ⟨t, acc, rfl, ht, HKt, P7, P8, P9, Pg, PX5, PX10, PB, PR, PL, PG⟩ := hrel
                have PS := Aside0.mk (show H + 2 ≤ wr.heap.size by have := blk_lt PX10.out; have := HBE.out; omega)
                cases gk with
                | zero => exact absurd HKt.out (by omega)
                | succ k3 =>
                  by_cases hlt3 : t < m9
                  · have hC8 := (Kd.N_reads' P8.out).2.2
                    have hC9 := (Kd.N_reads' P9.out).2.2
                    rw [← HM8.out] at hC8
                    rw [← HM9.out] at hC9
                    obtain ⟨ad8, Aa, ca, a', e, hga, hca, hla, hra⟩ := at_rows hC8 j hlt2
                    cases e
                    obtain rfl : a' = a := Option.some.inj (hga.symm.trans HA.out)
                    obtain ⟨ad9, Ab, cb, bb, e, hgb, hcb, hlb, hrb⟩ := at_rows hC9 t hlt3
                    cases e
                    have hma := (List.mem_filter.1 (List.mem_of_getElem? hga)).1
                    have hmb := (List.mem_filter.1 (List.mem_of_getElem? hgb)).1
                    have hga2 := HG.out a' hma
                    have hgb2 := HG.out bb hmb
                    obtain ⟨qa, hqa⟩ : ∃ q, q = a'.length := ⟨_, rfl⟩
                    obtain ⟨qb, hqb⟩ : ∃ q, q = bb.length := ⟨_, rfl⟩
                    have HPR := Aside0.mk (show outR ls v = (resA v a' (bb :: (agnv ls v).drop (t + 1)) acc).bind (resB v (agnv ls v) ((withv ls v).drop (j + 1))) by
                      obtain ⟨h1, h2⟩ := List.getElem?_eq_some_iff.1 hgb
                      rw [PR.out, List.drop_eq_getElem_cons h1, h2])
                    have HGC := Aside0.mk (show (resv a' bb v).1.length ≤ 16384 → Good (resv a' bb v).1 from fun h => ⟨h, fun x hx => by
                      rcases resv_mem hx with h1 | h1
                      · exact hga2.2 x h1
                      · exact hgb2.2 x h1⟩)
                    have hlr0 : (resv a' bb v).1.length ≤ 32768 := by have := resv_len a' bb v; have := hga2.1; have := hgb2.1; omega
                    obtain ⟨er, her⟩ : ∃ er, er = (resv a' bb v).2 := ⟨_, rfl⟩
                    have HRC : Aside0 (∀ W, Below wr.heap.size wr W → Calls Try.prog 48 #[.slice Aa qa ca, .slice Ab qb cb, .int .i64 v] W fun e w' => ∃ X lr d, e = .returned (.tuple #[.slice X lr d, .int .i64 er]) ∧ lr = (resv a' bb v).1.length ∧ lr ≤ d ∧ Kd.F (Kd.int .i64) w' (fun k => wr.heap.size ≤ k) X lr (resv a' bb v).1 ∧ Below W.heap.size W w') := ⟨fun W hW => by
                      obtain ⟨kk, hk⟩ := HRS.out a' hma bb hmb
                      rw [hqa, hqb, her]
                      refine (GCO.trestleref01_Resolve.calls kk Aa ca a' Ab cb bb v (resv a' bb v).1 (resv a' bb v).2 W (Kd.C_below hra hW) hla (Kd.C_below hrb hW) hlb hk).mono ?_
                      rintro e w' ⟨v0, rfl, hV, hB⟩
                      obtain ⟨X, d, rfl, hld, hF⟩ := hV
                      exact ⟨X, _, d, rfl, rfl, hld, Kd.F_mono hF (fun k hk => Nat.le_trans hW.size hk), hB⟩⟩
                    have HER := Aside0.mk her
                    rw [← hqa] at hca
                    rw [← hqb] at hcb
                    have hdt : decide (t < m9) = true := decide_eq_true hlt3
                    have hdt1 : decide ((t : Int) < (m9 : Int)) = true := decide_eq_true (by omega)
                    have ht0 : (0 : Int) ≤ (t : Int) := by omega
                    have ht1 : (t : Int) < (m9 : Int) := by omega
                    have HLR := Aside0.mk hlr0
                    clear hC8 hC9 hga hla hra hgb hlb hrb hma hmb hga2 hgb2 hqa hqb her hlr0 PR
                    go_wp2
                    refine start_ (n := 15) (S := fun w' => w'.cell? (ad8.add j) = some (.slice Aa qa ca) ∧ w'.cell? (ad9.add t) = some (.slice Ab qb cb)) (ds := []) #[false, false, false, false, false, false, false, false, false, false, false, false, false, false, false] (by kernel_rfl) rfl rfl ⟨hca, hcb⟩ (fun hHeld => ?_)
                    refine pure_ (i := 0) (N := (some 88)) (v := ?_) (a' := ?_) #[true, false, false, false, false, false, false, false, false, false, false, false, false, false, false] rfl rfl (by kernel_rfl) (fun _ _ _ h => h) (Or.inl ⟨by rfl, ?_⟩) ?_ ?_
                    rotate_left
                    · intro w'
                      go_simp
                      with_reducible rfl
                    rotate_left
                    · simp only [Act.put, List.setIfInBounds_toArray, List.set_cons_zero, List.set_cons_succ, i64_w, i32_w]
                      rfl
                    refine pure_ (i := 1) (N := (some 89)) (v := ?_) (a' := ?_) #[true, true, false, false, false, false, false, false, false, false, false, false, false, false, false] rfl rfl (by kernel_rfl) (fun _ _ _ h => h) (Or.inl ⟨by rfl, ?_⟩) ?_ ?_
                    rotate_left
                    · intro w'
                      go_simp
                      with_reducible rfl
                    rotate_left
                    · simp only [Act.put, List.setIfInBounds_toArray, List.set_cons_zero, List.set_cons_succ, i64_w, i32_w]
                      rfl
                    refine pure_ (i := 2) (N := (some 90)) (v := ?_) (a' := ?_) #[true, true, true, false, false, false, false, false, false, false, false, false, false, false, false] rfl rfl (by kernel_rfl) (fun _ _ _ h => h) (Or.inl ⟨by rfl, ?_⟩) ?_ ?_
                    rotate_left
                    · intro w'
                      go_simp
                      with_reducible rfl
                    rotate_left
                    · simp only [Act.put, List.setIfInBounds_toArray, List.set_cons_zero, List.set_cons_succ, i64_w, i32_w]
                      rfl
                    refine take_ (i := 3) (N := (some 91)) (v := ?_) (a' := ?_) #[true, true, true, true, false, false, false, false, false, false, false, false, false, false, false] rfl rfl (by kernel_rfl) (fun _ _ _ h => h) (Or.inl ⟨by rfl, ?_⟩) hHeld ?_ ?_
                    rotate_left
                    · rintro w' ⟨s0, s1⟩
                      go_simp
                      with_reducible rfl
                    rotate_left
                    · simp only [Act.put, List.setIfInBounds_toArray, List.set_cons_zero, List.set_cons_succ, i64_w, i32_w]
                      rfl
                    refine pure_ (i := 4) (N := (some 92)) (v := ?_) (a' := ?_) #[true, true, true, true, true, false, false, false, false, false, false, false, false, false, false] rfl rfl (by kernel_rfl) (fun _ _ _ h => h) (Or.inl ⟨by rfl, ?_⟩) ?_ ?_
                    rotate_left
                    · intro w'
                      go_simp
                      with_reducible rfl
                    rotate_left
                    · simp only [Act.put, List.setIfInBounds_toArray, List.set_cons_zero, List.set_cons_succ, i64_w, i32_w]
                      rfl
                    refine pure_ (i := 5) (N := (some 93)) (v := ?_) (a' := ?_) #[true, true, true, true, true, true, false, false, false, false, false, false, false, false, false] rfl rfl (by kernel_rfl) (fun _ _ _ h => h) (Or.inl ⟨by rfl, ?_⟩) ?_ ?_
                    rotate_left
                    · intro w'
                      go_simp
                      with_reducible rfl
                    rotate_left
                    · simp only [Act.put, List.setIfInBounds_toArray, List.set_cons_zero, List.set_cons_succ, i64_w, i32_w]
                      rfl
                    refine pure_ (i := 6) (N := (some 94)) (v := ?_) (a' := ?_) #[true, true, true, true, true, true, true, false, false, false, false, false, false, false, false] rfl rfl (by kernel_rfl) (fun _ _ _ h => h) (Or.inl ⟨by rfl, ?_⟩) ?_ ?_
                    rotate_left
                    · intro w'
                      go_simp
                      with_reducible rfl
                    rotate_left
                    · simp only [Act.put, List.setIfInBounds_toArray, List.set_cons_zero, List.set_cons_succ, i64_w, i32_w]
                      rfl
                    refine take_ (i := 7) (N := (some 95)) (v := ?_) (a' := ?_) #[true, true, true, true, true, true, true, true, false, false, false, false, false, false, false] rfl rfl (by kernel_rfl) (fun _ _ _ h => h) (Or.inl ⟨by rfl, ?_⟩) hHeld ?_ ?_
                    rotate_left
                    · rintro w' ⟨s0, s1⟩
                      go_simp
                      with_reducible rfl
                    rotate_left
                    · simp only [Act.put, List.setIfInBounds_toArray, List.set_cons_zero, List.set_cons_succ, i64_w, i32_w]
                      rfl
                    refine pure_ (i := 8) (N := (some 96)) (v := ?_) (a' := ?_) #[true, true, true, true, true, true, true, true, true, false, false, false, false, false, false] rfl rfl (by kernel_rfl) (fun _ _ _ h => h) (Or.inl ⟨by rfl, ?_⟩) ?_ ?_
                    rotate_left
                    · intro w'
                      go_simp
                      with_reducible rfl
                    rotate_left
                    · simp only [Act.put, List.setIfInBounds_toArray, List.set_cons_zero, List.set_cons_succ, i64_w, i32_w]
                      rfl
                    refine one_ (i := 9) (N := (some 97)) #[true, true, true, true, true, true, true, true, true, true, false, false, false, false, false] rfl rfl (by kernel_rfl) (by decide) (fun K hK => ?_)
                    refine goes_ Try.func48 (by kernel_rfl) rfl #[.slice Aa qa ca, .slice Ab qb cb, .int .i64 v] (by rfl) rfl rfl (by (try simp only [List.map_toArray, List.map_cons, List.map_nil]); first | done | rfl) ?_
                    refine (HRC.out _ (below_drew (Below.refl _ _))).mono ?_
                    rintro e w4 ⟨X, lr, d, rfl, hlr, hld, hFX, hb⟩
                    refine ⟨_, rfl, ?_⟩
                    have hb' := below_then (below_drew (Below.refl wr.heap.size wr)) (Nat.le_refl _) hb
                    have z1 : w4.cell? (ad8.add j) = some (.slice Aa qa ca) := pw_cell_below hb' hca
                    have z2 : w4.cell? (ad9.add t) = some (.slice Ab qb cb) := pw_cell_below hb' hcb
                    have HFX := Aside0.mk (Kd.F_mono hFX (fun k hk => hk) : Kd.F (Kd.int .i64) w4 (fun k => wr.heap.size ≤ k) X lr (resv a' bb v).1)
                    have HB4 := Aside0.mk hb'
                    clear hb hb' hFX
                    refine hK.out _ _ ⟨z1, z2⟩ (fun hHeld => ?_)
                    clear hK K
                    refine norm_ (a' := ?_) ?_ ?_
                    rotate_left
                    · show Act.put _ (some 97) _ = _
                      simp only [Act.put, List.setIfInBounds_toArray, List.set_cons_zero, List.set_cons_succ, i64_w, i32_w]
                      rfl
                    refine pure_ (i := 10) (N := (some 87)) (v := ?_) (a' := ?_) #[true, true, true, true, true, true, true, true, true, true, true, false, false, false, false] rfl rfl (by kernel_rfl) (fun _ _ _ h => h) (Or.inl ⟨by rfl, ?_⟩) ?_ ?_
                    rotate_left
                    · intro w'
                      go_simp
                      with_reducible rfl
                    rotate_left
                    · simp only [Act.put, List.setIfInBounds_toArray, List.set_cons_zero, List.set_cons_succ, i64_w, i32_w]
                      rfl
                    refine pure_ (i := 11) (N := (some 98)) (v := ?_) (a' := ?_) #[true, true, true, true, true, true, true, true, true, true, true, true, false, false, false] rfl rfl (by kernel_rfl) (fun _ _ _ h => h) (Or.inl ⟨by rfl, ?_⟩) ?_ ?_
                    rotate_left
                    · intro w'
                      go_simp
                      with_reducible rfl
                    rotate_left
                    · simp only [Act.put, List.setIfInBounds_toArray, List.set_cons_zero, List.set_cons_succ, i64_w, i32_w]
                      rfl
                    refine pure_ (i := 12) (N := (some 99)) (v := ?_) (a' := ?_) #[true, true, true, true, true, true, true, true, true, true, true, true, true, false, false] rfl rfl (by kernel_rfl) (fun _ _ _ h => h) (Or.inl ⟨by rfl, ?_⟩) ?_ ?_
                    rotate_left
                    · intro w'
                      go_simp
                      with_reducible rfl
                    rotate_left
                    · simp only [Act.put, List.setIfInBounds_toArray, List.set_cons_zero, List.set_cons_succ, i64_w, i32_w]
                      rfl
                    refine pure_ (i := 13) (N := (some 16)) (v := ?_) (a' := ?_) #[true, true, true, true, true, true, true, true, true, true, true, true, true, true, false] rfl rfl (by kernel_rfl) (fun _ _ _ h => h) (Or.inl ⟨by rfl, ?_⟩) ?_ ?_
                    rotate_left
                    · intro w'
                      go_simp
                      with_reducible rfl
                    rotate_left
                    · simp only [Act.put, List.setIfInBounds_toArray, List.set_cons_zero, List.set_cons_succ, i64_w, i32_w]
                      rfl
                    refine pure_ (i := 14) (N := (some 17)) (v := ?_) (a' := ?_) #[true, true, true, true, true, true, true, true, true, true, true, true, true, true, true] rfl rfl (by kernel_rfl) (fun _ _ _ h => h) (Or.inl ⟨by rfl, ?_⟩) ?_ ?_
                    rotate_left
                    · intro w'
                      go_simp
                      with_reducible rfl
                    rotate_left
                    · simp only [Act.put, List.setIfInBounds_toArray, List.set_cons_zero, List.set_cons_succ, i64_w, i32_w]
                      rfl
                    refine done_ (by kernel_rfl) ?_
                    have M7 := Aside0.mk (P7.out.below HB4.out)
                    have M8 := Aside0.mk (P8.out.below HB4.out)
                    have M9 := Aside0.mk (P9.out.below HB4.out)
                    have Mg := Aside0.mk (Pg.out.below HB4.out)
                    have MX5 := Aside0.mk (blk_below PX5.out HB4.out)
                    have MX10 := Aside0.mk (blk_below PX10.out HB4.out)
                    have MS := Aside0.mk (Nat.le_trans PS.out HB4.out.size)
                    have MB := Aside0.mk (PB.out.trans (HB4.out.mono (show H ≤ wr.heap.size by have := PS.out; omega)))
                    clear hca hcb z1 z2 hHeld
                    by_cases her0 : er = 0
                    · have HE0 := Aside0.mk (show (resv a' bb v).2 = 0 from HER.out.symm.trans her0)
                      have hb0 : (er != 0) = false := bne_eq_false_iff_eq.2 her0
                      have HLX := Aside0.mk hlr
                      have hlr2 : lr ≤ 32768 := by have := HLR.out; omega
                      rw [← hlr]
                      clear her0 hlr
                      by_cases hlong : 16384 < lr
                      · have hdl : decide (16384 < lr) = true := decide_eq_true hlong
                        have hdl1 : decide ((16384 : Int) < (lr : Int)) = true := decide_eq_true (by omega)
                        have hx0 : w4.cell? ⟨H, 0, none⟩ = some (.int .i64 0) := blk_cell MX5.out 0
                        have hx1 : w4.cell? ⟨H, 1, none⟩ = some (.slice none 0 0) := blk_cell MX5.out 1
                        have hf0 := blk_frozen MX5.out 0
                        have hf1 := blk_frozen MX5.out 1
                        clear hld
                        go_wp2
                        refine bodyPost_ret (results_list (rs := [.tmp 4, .cell 5 29, .tmp 6]) rfl (by simp) (.tmp (.cell H 29 #[.int .i64 0, .slice none 0 0] (0, 0) _ rfl (blk_put (blk_put MX5.out 0 _ rfl) 1 _ rfl) Try.underlying29 rfl (by kernel_rfl) (.tmp .nil)))) rfl ?_
                        refine .inl ⟨?_, rfl, ?_⟩
                        · rw [HPR.out, resA, if_neg (fun h => h HE0.out), if_pos (by have := HLX.out; omega)]
                          rfl
                        · have h1 := (MB.out.setCell (p := ⟨H, 0, none⟩) (Nat.le_refl H) (.int .i64 0)).setCell (p := ⟨H, 1, none⟩) (Nat.le_refl H) (.slice none 0 0)
                          rw [HHE.out] at h1 ⊢
                          exact h1
                      · have HFKX := Aside0.mk (show Kd.FK kClause w4 (fun k => wr.heap.size ≤ k) (resv a' bb v).1 [.slice X lr d] by
                          have := Kd.FK_slice_mk (e := 3) (show (resv a' bb v).1.length ≤ d by have := HLX.out; omega) (show Kd.F (Kd.int .i64) w4 (fun k => wr.heap.size ≤ k) X (resv a' bb v).1.length (resv a' bb v).1 by rw [← HLX.out]; exact HFX.out)
                          rwa [← HLX.out] at this)
                        have HGR := Aside0.mk (HGC.out (by have := HLX.out; omega))
                        have hdl : decide (16384 < lr) = false := decide_eq_false hlong
                        have hdl1 : decide ((16384 : Int) < (lr : Int)) = false := decide_eq_false (by omega)
                        clear hld
                        go_wp2_with (at_builtin; refine Kd.N_append kClause (H + 2) rfl (.tmp 106) (.tmp 108) 22 43 (.slice none 0 0) 24 rfl Try.underlying22 info43 rfl (by decide) (by omega) u7 acc (resv a' bb v).1 [.slice X lr d] (Q3 P H (H + 2) (.slice (some ad8) m8 c8) (.slice (some ad9) m9 c9) (.slice G mg cg)) (fun k => wr.heap.size ≤ k) rfl rfl HFKX.out (fun k hk => ⟨N4.fresh PS.out P8.out P9.out Pg.out k hk, fun e => by have := Kd.N_lt P7.out k e.symm; omega⟩) (N4.fresh MS.out M8.out M9.out Mg.out) M7.out (Below.refl _ _) MS.out (by have := PL.out; omega) ?_; intro v7' w5 hN hb5 hg5 hat5; have R7 := Aside0.mk (show N4 P H (H + 2) w5 v7' (.slice (some ad8) m8 c8) (.slice (some ad9) m9 c9) (.slice G mg cg) (acc ++ [(resv a' bb v).1]) from hN); have R8 := Aside0.mk (N4.after M8.out hg5 hat5); have R9 := Aside0.mk (N4.after M9.out hg5 hat5); have Rg := Aside0.mk (N4.after Mg.out hg5 hat5); have RX5 := Aside0.mk (blk_grown MX5.out hg5 (Kd.N_ne M7.out MX5.out (by decide))); have RX10 := Aside0.mk (blk_grown MX10.out hg5 (Kd.N_ne M7.out MX10.out (by decide))); have RB := Aside0.mk (MB.out.trans (hb5.mono (Nat.le_add_right H 2))); clear hN hb5 hg5 hat5)
                        go_roundg k3
                        case measure => omega
                        case rel => exact ⟨t + 1, _, by go_num, by omega, ⟨by have := HKt.out; omega⟩, R7, R8, R9, Rg, RX5, RX10, RB, ⟨by rw [HPR.out, resA, if_neg (fun h => h HE0.out), if_neg (by have := HLX.out; omega)]⟩, ⟨by rw [List.length_append, List.length_singleton]; have := PL.out; omega⟩, ⟨fun c hc => by
                          rcases List.mem_append.1 hc with h | h
                          · exact PG.out c h
                          · obtain rfl := List.mem_singleton.1 h; exact HGR.out⟩⟩
                    · have hb0 : (er != 0) = true := bne_iff_ne.2 her0
                      have hne := her0
                      have HE0 := Aside0.mk (show (resv a' bb v).2 ≠ 0 from fun h => hne (HER.out.trans h))
                      clear her0 hne hlr hld
                      go_wp2
                      go_roundg k3
                      case measure => omega
                      case rel => exact ⟨t + 1, acc, by go_num, by omega, ⟨by have := HKt.out; omega⟩, M7, M8, M9, Mg, MX5, MX10, MB, ⟨by rw [HPR.out, resA, if_pos HE0.out]⟩, ⟨by have := PL.out; omega⟩, PG⟩
                  · obtain rfl : t = m9 := by omega
                    have hdt : decide (t < t) = false := decide_eq_false (by omega)
                    have hdt1 : decide ((t : Int) < (t : Int)) = false := decide_eq_false (by omega)
                    have PR2 := Aside0.mk (show outR ls v = resB v (agnv ls v) ((withv ls v).drop (j + 1)) acc by
                      rw [PR.out, List.drop_eq_nil_of_le (Nat.le_of_eq HM9.out.symm)]
                      rfl)
                    clear PR
                    go_wp2
                    go_roundg k2
                    case measure => omega
                    case rel => exact ⟨j + 1, acc, by go_num, by omega, ⟨by have := HK.out; omega⟩, P7, P8, P9, Pg, PX5, PX10, PB, PR2, ⟨by have := PL.out; omega⟩, PG⟩
            · obtain rfl : j = m8 := by omega
              have hdj : decide (j < j) = false := decide_eq_false (by omega)
              have hdj1 : decide ((j : Int) < (j : Int)) = false := decide_eq_false (by omega)
              have PR2 := Aside0.mk (show outR ls v = some acc by
                rw [PR.out, List.drop_eq_nil_of_le (Nat.le_of_eq HM8.out.symm)]
                rfl)
              have hla : acc.length ≤ 4398046511104 := by have := PL.out; omega
              obtain ⟨X7, c7, hl7, hC7⟩ : ∃ X7 c7, u7 = .slice X7 acc.length c7 ∧ acc.length ≤ c7 ∧ Kd.C kClause wr X7 acc.length acc := by
                obtain ⟨X7, c7, h1, h2, h3⟩ := Kd.N_reads P7.out
                exact ⟨X7, c7, h1, h2, h3⟩
              obtain ⟨nt, hnt⟩ : ∃ n, n = (tidyv acc).length := ⟨_, rfl⟩
              have HTC : Aside0 (Calls Try.prog 46 #[u7] wr fun e w' => ∃ X d, e = .returned (.slice X nt d) ∧ nt ≤ d ∧ Kd.N kClause 43 w' wr.heap.size (fun k => wr.heap.size ≤ k) (.slice X nt d) (tidyv acc) ∧ Below wr.heap.size wr w') := ⟨by
                obtain ⟨kk, hk⟩ := HTD.out acc PG.out hla
                rw [hl7, hnt]
                refine (GCO.trestleref19_tidy.calls kk X7 c7 acc (tidyv acc) wr hC7.2 hC7.1 hk).mono ?_
                rintro e w' ⟨v0, rfl, hN, hB⟩
                obtain ⟨X, d, rfl, h2, h3⟩ := Kd.N_reads hN
                exact ⟨X, d, rfl, h2, hN, hB⟩⟩
              have HNT := Aside0.mk hnt
              clear PR hla hl7 hC7 hnt
              go_wp2_with (go_at_call 46; refine HTC.out.mono ?_; rintro e w4 ⟨X, d, rfl, hdn, hC, hb4⟩; have HC4 := Aside0.mk hC; have y10 := blk_cell (blk_below PX10.out hb4) 0; have y11 := blk_cell (blk_below PX10.out hb4) 1; have hb4' := hb4; have MX5 := Aside0.mk (blk_below PX5.out hb4); have MG := Aside0.mk (Kd.N_below Pg.out hb4); have MB := Aside0.mk (PB.out.trans (hb4.mono (show H ≤ wr.heap.size by have := PS.out; omega))); clear hb4 hC)
              have hx0 : w4.cell? ⟨H, 0, none⟩ = some (.int .i64 0) := blk_cell MX5.out 0
              have hx1 : w4.cell? ⟨H, 1, none⟩ = some (.slice none 0 0) := blk_cell MX5.out 1
              have hf0 := blk_frozen MX5.out 0
              have hf1 := blk_frozen MX5.out 1
              have z10 : w4.cell? ⟨b, 0, none⟩ = some (.int .i64 v) := y10
              have z11 : w4.cell? ⟨b, 1, none⟩ = some (.slice G mg cg) := y11
              have MX10 := Aside0.mk (blk_below PX10.out hb4')
              have hbH : b ≠ H := by have := HBE.out; omega
              clear y10 y11 hb4'
              refine start_ (n := 8) (S := fun w' => w'.cell? ⟨b, 0, none⟩ = some (.int .i64 v) ∧ w'.cell? ⟨b, 1, none⟩ = some (.slice G mg cg)) (ds := []) #[false, false, false, false, false, false, false, false] (by kernel_rfl) rfl rfl ⟨z10, z11⟩ (fun hHeld => ?_)
              refine pure_ (i := 0) (N := (some 112)) (v := ?_) (a' := ?_) #[true, false, false, false, false, false, false, false] rfl rfl (by kernel_rfl) (fun _ _ _ h => h) (Or.inl ⟨by rfl, ?_⟩) ?_ ?_
              rotate_left
              · intro w'
                go_simp
                with_reducible rfl
              rotate_left
              · simp only [Act.put, List.setIfInBounds_toArray, List.set_cons_zero, List.set_cons_succ, i64_w, i32_w]
                rfl
              refine take_ (i := 1) (N := (some 113)) (v := ?_) (a' := ?_) #[true, true, false, false, false, false, false, false] rfl rfl (by kernel_rfl) (fun _ _ _ h => h) (Or.inl ⟨by rfl, ?_⟩) hHeld ?_ ?_
              rotate_left
              · rintro w' ⟨s0, s1⟩
                go_simp
                with_reducible rfl
              rotate_left
              · simp only [Act.put, List.setIfInBounds_toArray, List.set_cons_zero, List.set_cons_succ, i64_w, i32_w]
                rfl
              refine pure_ (i := 2) (N := (some 114)) (v := ?_) (a' := ?_) #[true, true, true, false, false, false, false, false] rfl rfl (by kernel_rfl) (fun _ _ _ h => h) (Or.inl ⟨by rfl, ?_⟩) ?_ ?_
              rotate_left
              · intro w'
                go_simp
                with_reducible rfl
              rotate_left
              · simp only [Act.put, List.setIfInBounds_toArray, List.set_cons_zero, List.set_cons_succ, i64_w, i32_w]
                rfl
              refine pure_ (i := 3) (N := (some 115)) (v := ?_) (a' := ?_) #[true, true, true, true, false, false, false, false] rfl rfl (by kernel_rfl) (fun _ _ _ h => h) (Or.inl ⟨by rfl, ?_⟩) ?_ ?_
              rotate_left
              · intro w'
                go_simp
                with_reducible rfl
              rotate_left
              · simp only [Act.put, List.setIfInBounds_toArray, List.set_cons_zero, List.set_cons_succ, i64_w, i32_w]
                rfl
              refine pure_ (i := 4) (N := (some 116)) (v := ?_) (a' := ?_) #[true, true, true, true, true, false, false, false] rfl rfl (by kernel_rfl) (fun _ _ _ h => h) (Or.inl ⟨by rfl, ?_⟩) ?_ ?_
              rotate_left
              · intro w'
                go_simp
                with_reducible rfl
              rotate_left
              · simp only [Act.put, List.setIfInBounds_toArray, List.set_cons_zero, List.set_cons_succ, i64_w, i32_w]
                rfl
              refine pure_ (i := 5) (N := (some 4)) (v := ?_) (a' := ?_) #[true, true, true, true, true, true, false, false] rfl rfl (by kernel_rfl) (fun _ _ _ h => h) (Or.inl ⟨by rfl, ?_⟩) ?_ ?_
              rotate_left
              · intro w'
                go_simp
                with_reducible rfl
              rotate_left
              · simp only [Act.put, List.setIfInBounds_toArray, List.set_cons_zero, List.set_cons_succ, i64_w, i32_w]
                rfl
              refine one_ (i := 6) (N := none) #[true, true, true, true, true, true, true, false] rfl rfl (by kernel_rfl) (by decide) (fun K hK => ?_)
              refine skip_ (w1 := ?_) (by rfl) rfl ?_ ?_
              rotate_left
              · go_simp
                rfl
              refine hK.out _ _ ⟨blk_cell ((Below.heap_setCell (w4.drew.setCell ⟨H, 0, none⟩ _) ⟨H, 1, none⟩ _ b hbH).trans ((Below.heap_setCell w4.drew ⟨H, 0, none⟩ _ b hbH).trans (blk_drew MX10.out))) 0, blk_cell ((Below.heap_setCell (w4.drew.setCell ⟨H, 0, none⟩ _) ⟨H, 1, none⟩ _ b hbH).trans ((Below.heap_setCell w4.drew ⟨H, 0, none⟩ _ b hbH).trans (blk_drew MX10.out))) 1⟩ (fun hHeld => ?_)
              clear hK K
              refine pure_ (i := 7) (N := (some 6)) (v := ?_) (a' := ?_) #[true, true, true, true, true, true, true, true] rfl rfl (by kernel_rfl) (fun _ _ _ h => h) (Or.inl ⟨by rfl, ?_⟩) ?_ ?_
              rotate_left
              · intro w'
                go_simp
                with_reducible rfl
              rotate_left
              · simp only [Act.put, List.setIfInBounds_toArray, List.set_cons_zero, List.set_cons_succ, i64_w, i32_w]
                rfl
              refine done_ (by kernel_rfl) ?_
              go_wp2
              refine bodyPost_ret (results_list (rs := [.tmp 4, .cell 5 29, .tmp 6]) rfl (by simp) (.tmp (.cell H 29 #[.int .i64 v, .slice G mg cg] (0, 0) _ rfl (blk_put (blk_put (blk_drew MX5.out) 0 _ rfl) 1 _ rfl) Try.underlying29 rfl (by kernel_rfl) (.tmp .nil)))) rfl ?_
              have hE := HHE.out
              have hPS := PS.out
              have hHW : ∀ {k : Nat}, wr.heap.size ≤ k → k ≠ H := fun h => by omega
              have hHQ : ∀ {k : Nat}, Q3 P H (H + 2) u7 (.slice A8 j c8) (.slice A9 m9 c9) k → k ≠ H := fun h => by rcases h.1 with h1 | h1 <;> omega
              have hCX := (Kd.N_reads' (Kd.N_below (Kd.N_far (Kd.N_far HC4.out (p := ⟨H, 0, none⟩) (fun k hk => hHW hk) (.int .i64 v)) (p := ⟨H, 1, none⟩) (fun k hk => hHW hk) (.slice G mg cg)) (below_drew (Below.refl _ _)))).2.2
              have hMG := Kd.N_below (Kd.N_far (Kd.N_far MG.out (p := ⟨H, 0, none⟩) (fun k hk => hHQ hk) (.int .i64 v)) (p := ⟨H, 1, none⟩) (fun k hk => hHQ hk) (.slice G mg cg)) (below_drew (Below.refl _ _))
              have hCG := (Kd.N_reads' hMG).2.2
              have hcg := (Kd.N_reads' hMG).2.1
              have h1 := below_drew ((MB.out.setCell (p := ⟨H, 0, none⟩) (Nat.le_refl H) (.int .i64 v)).setCell (p := ⟨H, 1, none⟩) (Nat.le_refl H) (.slice G mg cg))
              have h2 : Below w.heap.size w (((w4.setCell ⟨H, 0, none⟩ (.int .i64 v)).setCell ⟨H, 1, none⟩ (.slice G mg cg)).drew) := by rw [← hE]; exact h1
              refine .inr ⟨acc, X, d, G, cg, PR2.out, ?_, by rw [← HNT.out]; exact hdn, by rw [← HNT.out] at hCX ⊢; exact hCX, by rw [← HMG.out]; exact hcg, hCG, h2⟩
              rw [← HNT.out, ← HMG.out]
              rfl

end Go.Proofs.Ythhmjfjkbmmcaaa
-- written by a program of this session's own (gprint.py), after the kit's print
namespace Go.Proofs.Ythhmjfjkbmmcaaa.GCO
open Go.RowKit Go.Proofs.YthhmjfjkbmmcaaaW.PrintWords Go.Proofs.YthhmjfjkbmmcaaaW.PrintLast Go.Proofs.YthhmjfjkbmmcaaaW.PrintMore
attribute [local go_sem] max2_int min2_int max_two min_two max_three min_three max_four min_four   -- for this text's walks alone
set_option linter.unusedVariables false
set_option linter.unusedSimpArgs false

/-! ### trestleref14_Lits: function 72 -/
def trestleref14_Lits.l0 : Nat → List Int → Int → Int → Option (Int)
  | 0, _, _, _ => none
  | k + 1, x0, x1, x5 => if x5 < (x0.length : Int) then (if 0 ≤ x5 then (if (rd x0 x5) = 0 then (some 141) else (if (rd x0 x5) > x1 then (some 141) else (if (rd x0 x5) < (wrap64 (-x1)) then (some 141) else (trestleref14_Lits.l0 k x0 x1 (wrap64 (x5 + 1)))))) else (none)) else (some 0)
def trestleref14_Lits.f (k : Nat) (l0 : List Int) (a1 : Int) : Option (Int) := if (l0.length : Int) > 16384 then (some 2) else (trestleref14_Lits.l0 k l0 a1 0)
set_option maxHeartbeats 8000000 in
set_option maxRecDepth 100000 in
theorem trestleref14_Lits.calls (k : Nat) (A0 : Option Addr) (c0 : Nat) (l0 : List Int) (a1 : Int) (r : Int) (w : World) (hr0 : Kd.C (Kd.int .i64) w A0 l0.length l0) (hc0 : l0.length ≤ c0) (h : trestleref14_Lits.f k l0 a1 = some r) :
    Calls Try.prog 72 #[.slice A0 l0.length c0, .int .i64 a1] w fun e w' => e = .returned (.int .i64 r) ∧ Drawn0 w w' := by
  have HR0 := Aside0.mk hr0
  have HC0 := Aside0.mk hc0
  clear hr0 hc0
  have H : (if (l0.length : Int) > 16384 then (some 2) else (trestleref14_Lits.l0 k l0 a1 0)) = some r := h
  clear h
  by_cases c3 : (l0.length : Int) > 16384
  · rw [if_pos c3] at H
    have c3b0 : decide (16384 < (l0.length : Int)) = true := decide_eq_true c3
    have c3b1 : decide (16384 < l0.length) = true := decide_eq_true (by omega)
    clear c3
    obtain rfl := Option.some.inj H
    go_enter Try.func72, Try.ntmps72
    go_wp2
    go_ret
    exact ⟨by first | rfl | (simp; done) | (simp [*]; done), by repeat (first | exact Drawn0.refl _ | apply Drawn0.step)⟩
  · rw [if_neg c3] at H
    have c3b0 : decide (16384 < (l0.length : Int)) = false := decide_eq_false c3
    have c3b1 : decide (16384 < l0.length) = false := decide_eq_false (by omega)
    clear c3
    have H' := Aside0.mk H
    clear H
    go_enter Try.func72, Try.ntmps72
    go_wp2
    go_loopg [5] k (fun kq v5 w' => ∃ (x5_1 : Int), v5 = .int .i64 x5_1 ∧ Aside0 (trestleref14_Lits.l0 kq l0 a1 x5_1 = some r) ∧ Aside0 (kq ≤ k) ∧ Drawn0 w w')
    case atStart => exact ⟨(0), (by first | rfl | (simp; done) | (simp [*]; done)), H', ⟨Nat.le_refl _⟩, by repeat (first | exact Drawn0.refl _ | apply Drawn0.step)⟩
    case round =>
      clear H'
      try clear p2
      try clear c3
      try clear c3b0
      try clear c3b1
      obtain ⟨x5_1, rfl, HA, HK1, ⟨m1, rfl⟩⟩ := hrel
      cases gk with
      | zero => exact absurd HA.out (by simp [trestleref14_Lits.l0])
      | succ k1 =>
        have H := HA.out
        clear HA
        simp only [trestleref14_Lits.l0] at H
        by_cases c4 : x5_1 < (l0.length : Int)
        · rw [if_pos c4] at H
          have c4b0 : decide (x5_1 < (l0.length : Int)) = true := decide_eq_true c4
          clear c4
          by_cases c5 : 0 ≤ x5_1
          · rw [if_pos c5] at H
            have c5b0 : decide (0 ≤ x5_1) = true := decide_eq_true c5
            clear c5
            by_cases c6 : (rd l0 x5_1) = 0
            · rw [if_pos c6] at H
              have c6b0 : ((rd l0 x5_1) == 0) = true := beq_iff_eq.mpr c6
              have c6b1 : ((rd l0 x5_1) != 0) = false := bne_eq_false_iff_eq.mpr c6
              clear c6
              obtain rfl := Option.some.inj H
              have p123 : 0 ≤ (x5_1 : Int) := of_decide_eq_true (by first | (with_reducible assumption) | assumption)
              have q123 : x5_1 < (l0.length : Int) := of_decide_eq_true (by first | (with_reducible assumption) | assumption)
              obtain ⟨ad123, e123, hx123_0⟩ := Kd.at_int HR0.out x5_1 p123 q123
              cases e123
              replace p123 := eq_true p123
              replace q123 := eq_true q123
              go_wp2
              go_ret
              exact ⟨by first | rfl | (simp; done) | (simp [*]; done), by repeat (first | exact Drawn0.refl _ | apply Drawn0.step)⟩
            · rw [if_neg c6] at H
              have c6b0 : ((rd l0 x5_1) == 0) = false := beq_eq_false_iff_ne.mpr c6
              have c6b1 : ((rd l0 x5_1) != 0) = true := bne_iff_ne.mpr c6
              by_cases c7 : (rd l0 x5_1) > a1
              · rw [if_pos c7] at H
                have c7b0 : decide (a1 < (rd l0 x5_1)) = true := decide_eq_true c7
                clear c7
                obtain rfl := Option.some.inj H
                have p123 : 0 ≤ (x5_1 : Int) := of_decide_eq_true (by first | (with_reducible assumption) | assumption)
                have q123 : x5_1 < (l0.length : Int) := of_decide_eq_true (by first | (with_reducible assumption) | assumption)
                obtain ⟨ad123, e123, hx123_0⟩ := Kd.at_int HR0.out x5_1 p123 q123
                cases e123
                replace p123 := eq_true p123
                replace q123 := eq_true q123
                have p124 : 0 ≤ (x5_1 : Int) := of_decide_eq_true (by first | (with_reducible assumption) | assumption)
                have q124 : x5_1 < (l0.length : Int) := of_decide_eq_true (by first | (with_reducible assumption) | assumption)
                obtain ⟨ad124, e124, hx124_0⟩ := Kd.at_int HR0.out x5_1 p124 q124
                obtain rfl : ad123 = ad124 := (by injection e124)
                replace p124 := eq_true p124
                replace q124 := eq_true q124
                go_wp2
                go_ret
                exact ⟨by first | rfl | (simp; done) | (simp [*]; done), by repeat (first | exact Drawn0.refl _ | apply Drawn0.step)⟩
              · rw [if_neg c7] at H
                have c7b0 : decide (a1 < (rd l0 x5_1)) = false := decide_eq_false c7
                clear c7
                by_cases c8 : (rd l0 x5_1) < (wrap64 (-a1))
                · rw [if_pos c8] at H
                  have c8b0 : decide ((rd l0 x5_1) < (wrap64 (-a1))) = true := decide_eq_true c8
                  clear c8
                  obtain rfl := Option.some.inj H
                  have p123 : 0 ≤ (x5_1 : Int) := of_decide_eq_true (by first | (with_reducible assumption) | assumption)
                  have q123 : x5_1 < (l0.length : Int) := of_decide_eq_true (by first | (with_reducible assumption) | assumption)
                  obtain ⟨ad123, e123, hx123_0⟩ := Kd.at_int HR0.out x5_1 p123 q123
                  cases e123
                  replace p123 := eq_true p123
                  replace q123 := eq_true q123
                  have p124 : 0 ≤ (x5_1 : Int) := of_decide_eq_true (by first | (with_reducible assumption) | assumption)
                  have q124 : x5_1 < (l0.length : Int) := of_decide_eq_true (by first | (with_reducible assumption) | assumption)
                  obtain ⟨ad124, e124, hx124_0⟩ := Kd.at_int HR0.out x5_1 p124 q124
                  obtain rfl : ad123 = ad124 := (by injection e124)
                  replace p124 := eq_true p124
                  replace q124 := eq_true q124
                  have p125 : 0 ≤ (x5_1 : Int) := of_decide_eq_true (by first | (with_reducible assumption) | assumption)
                  have q125 : x5_1 < (l0.length : Int) := of_decide_eq_true (by first | (with_reducible assumption) | assumption)
                  obtain ⟨ad125, e125, hx125_0⟩ := Kd.at_int HR0.out x5_1 p125 q125
                  obtain rfl : ad123 = ad125 := (by injection e125)
                  replace p125 := eq_true p125
                  replace q125 := eq_true q125
                  go_wp2
                  go_ret
                  exact ⟨by first | rfl | (simp; done) | (simp [*]; done), by repeat (first | exact Drawn0.refl _ | apply Drawn0.step)⟩
                · rw [if_neg c8] at H
                  have c8b0 : decide ((rd l0 x5_1) < (wrap64 (-a1))) = false := decide_eq_false c8
                  clear c8
                  have H' := Aside0.mk H
                  clear H
                  have p123 : 0 ≤ (x5_1 : Int) := of_decide_eq_true (by first | (with_reducible assumption) | assumption)
                  have q123 : x5_1 < (l0.length : Int) := of_decide_eq_true (by first | (with_reducible assumption) | assumption)
                  obtain ⟨ad123, e123, hx123_0⟩ := Kd.at_int HR0.out x5_1 p123 q123
                  cases e123
                  replace p123 := eq_true p123
                  replace q123 := eq_true q123
                  have p124 : 0 ≤ (x5_1 : Int) := of_decide_eq_true (by first | (with_reducible assumption) | assumption)
                  have q124 : x5_1 < (l0.length : Int) := of_decide_eq_true (by first | (with_reducible assumption) | assumption)
                  obtain ⟨ad124, e124, hx124_0⟩ := Kd.at_int HR0.out x5_1 p124 q124
                  obtain rfl : ad123 = ad124 := (by injection e124)
                  replace p124 := eq_true p124
                  replace q124 := eq_true q124
                  have p125 : 0 ≤ (x5_1 : Int) := of_decide_eq_true (by first | (with_reducible assumption) | assumption)
                  have q125 : x5_1 < (l0.length : Int) := of_decide_eq_true (by first | (with_reducible assumption) | assumption)
                  obtain ⟨ad125, e125, hx125_0⟩ := Kd.at_int HR0.out x5_1 p125 q125
                  obtain rfl : ad123 = ad125 := (by injection e125)
                  replace p125 := eq_true p125
                  replace q125 := eq_true q125
                  go_wp2
                  go_roundg k1
                  case measure => have := HK1.out; omega
                  case rel => exact ⟨(wrap64 (x5_1 + 1)), (by first | rfl | (simp; done) | (simp [*]; done)), H', ⟨by have := HK1.out; omega⟩, by repeat (first | exact Drawn0.refl _ | apply Drawn0.step)⟩
          · rw [if_neg c5] at H
            exact absurd H (by simp)
        · rw [if_neg c4] at H
          have c4b0 : decide (x5_1 < (l0.length : Int)) = false := decide_eq_false c4
          clear c4
          obtain rfl := Option.some.inj H
          go_wp2
          go_ret
          exact ⟨by first | rfl | (simp; done) | (simp [*]; done), by repeat (first | exact Drawn0.refl _ | apply Drawn0.step)⟩

end Go.Proofs.Ythhmjfjkbmmcaaa.GCO
-- written by a program of this session's own (gprint.py), after the kit's print
namespace Go.Proofs.Ythhmjfjkbmmcaaa.GCO
open Go.RowKit Go.Proofs.YthhmjfjkbmmcaaaW.PrintWords Go.Proofs.YthhmjfjkbmmcaaaW.PrintLast Go.Proofs.YthhmjfjkbmmcaaaW.PrintMore
attribute [local go_sem] max2_int min2_int max_two min_two max_three min_three max_four min_four   -- for this text's walks alone
set_option linter.unusedVariables false
set_option linter.unusedSimpArgs false

/-! ### trestleref14_Check: function 45 -/
mutual
def trestleref14_Check.j0 : Nat → Bool → Int → List (List Int) → Option (Int × Int)
  | 0, _, _, _ => none
  | k + 1, x13, x127000, x127001 => if x13 = true then (some (0, 1)) else (if (x127001.length : Int) > 524288 then (some (0, 2)) else (trestleref14_Check.l0 k 0 x127000 x127001))
def trestleref14_Check.l0 : Nat → Int → Int → List (List Int) → Option (Int × Int)
  | 0, _, _, _ => none
  | k + 1, x4, x127000, x127001 => if x4 < (x127001.length : Int) then (if 0 ≤ x4 then ((trestleref14_Lits.f k (rd_L1 x127001 x4) x127000).bind fun t128 => (if t128 = 0 then (trestleref14_Check.l0 k (wrap64 (x4 + 1)) x127000 x127001) else (some (x4, t128)))) else (none)) else (some (0, 0))
end
def trestleref14_Check.f (k : Nat) (a0_0 : Int) (l0_1 : List (List Int)) : Option (Int × Int) := if a0_0 < 0 then (trestleref14_Check.j0 k true a0_0 l0_1) else (trestleref14_Check.j0 k (decide (a0_0 > 262144)) a0_0 l0_1)
set_option maxHeartbeats 8000000 in
set_option maxRecDepth 100000 in
theorem trestleref14_Check.calls (k : Nat) (a0_0 : Int) (A0_1 : Option Addr) (c0_1 : Nat) (l0_1 : List (List Int)) (r1 : Int) (r2 : Int) (w : World) (hr0_1 : Kd.C (Kd.slice 3 (Kd.int .i64)) w A0_1 l0_1.length l0_1) (hc0_1 : l0_1.length ≤ c0_1) (h : trestleref14_Check.f k a0_0 l0_1 = some (r1, r2)) :
    Calls Try.prog 45 #[.agg #[.int .i64 a0_0, .slice A0_1 l0_1.length c0_1]] w fun e w' => e = .returned (.tuple #[.int .i64 r1, .int .i64 r2]) ∧ Below w.heap.size w w' := by
  have hu24 := Try.underlying24
  have HR0_1 := Aside0.mk hr0_1
  have HC0_1 := Aside0.mk hc0_1
  clear hr0_1 hc0_1
  have HB := Aside0.mk (Below.refl w.heap.size w)
  have H : (if a0_0 < 0 then (trestleref14_Check.j0 k true a0_0 l0_1) else (trestleref14_Check.j0 k (decide (a0_0 > 262144)) a0_0 l0_1)) = some (r1, r2) := h
  clear h
  have HC2 := Aside0.mk H
  clear H
  go_enter Try.func45, Try.ntmps45
  go_upto_region 1 with (first | ((with_reducible refine gate_dst (N := 1) rfl ?_); refine box_event ?hg (N := 1) ?hd (cs := #[.int .i64 a0_0, .slice A0_1 l0_1.length c0_1]) (t := 24) ?hr ?_; (case hd => rfl); (case hg => rfl); (case hr => first | (go_simp; done) | (go_simp; rfl)); intro gb126 hg w3 hbox hb; have n0_ := Aside0.mk (below_step (by repeat (first | (with_reducible first | exact HB.out | apply below_alloc | apply pw_below_drewN | apply below_drew1) | exact HB.out)) hb); have n1_ := Aside0.mk (hbox); have n2_ := Aside0.mk ((by rw [hg]; exact (below_size (by repeat (first | (with_reducible first | exact HB.out | apply below_alloc | apply pw_below_drewN | apply below_drew1) | exact HB.out))) : w.heap.size ≤ gb126)); have n3_ := Aside0.mk ((by rw [hg]; exact (below_size (by repeat (first | (with_reducible first | exact HB.out | apply below_alloc | apply pw_below_drewN | apply below_drew1) | exact HB.out))) : w.heap.size ≤ gb126)); clear HB; have HB := n0_; have BK126 := n1_; have GW126 := n2_; have GE126 := n3_; clear n0_ n1_ n2_ n3_; clear hb hbox hg))
  repeat (go_quiet (first | ((with_reducible refine gate_dst (N := 1) rfl ?_); refine box_event ?hg (N := 1) ?hd (cs := #[.int .i64 a0_0, .slice A0_1 l0_1.length c0_1]) (t := 24) ?hr ?_; (case hd => rfl); (case hg => rfl); (case hr => first | (go_simp; done) | (go_simp; rfl)); intro gb126 hg w3 hbox hb; have n0_ := Aside0.mk (below_step (by repeat (first | (with_reducible first | exact HB.out | apply below_alloc | apply pw_below_drewN | apply below_drew1) | exact HB.out)) hb); have n1_ := Aside0.mk (hbox); have n2_ := Aside0.mk ((by rw [hg]; exact (below_size (by repeat (first | (with_reducible first | exact HB.out | apply below_alloc | apply pw_below_drewN | apply below_drew1) | exact HB.out))) : w.heap.size ≤ gb126)); have n3_ := Aside0.mk ((by rw [hg]; exact (below_size (by repeat (first | (with_reducible first | exact HB.out | apply below_alloc | apply pw_below_drewN | apply below_drew1) | exact HB.out))) : w.heap.size ≤ gb126)); clear HB; have HB := n0_; have BK126 := n1_; have GW126 := n2_; have GE126 := n3_; clear n0_ n1_ n2_ n3_; clear hb hbox hg)); go_upto_region 1 with (first | ((with_reducible refine gate_dst (N := 1) rfl ?_); refine box_event ?hg (N := 1) ?hd (cs := #[.int .i64 a0_0, .slice A0_1 l0_1.length c0_1]) (t := 24) ?hr ?_; (case hd => rfl); (case hg => rfl); (case hr => first | (go_simp; done) | (go_simp; rfl)); intro gb126 hg w3 hbox hb; have n0_ := Aside0.mk (below_step (by repeat (first | (with_reducible first | exact HB.out | apply below_alloc | apply pw_below_drewN | apply below_drew1) | exact HB.out)) hb); have n1_ := Aside0.mk (hbox); have n2_ := Aside0.mk ((by rw [hg]; exact (below_size (by repeat (first | (with_reducible first | exact HB.out | apply below_alloc | apply pw_below_drewN | apply below_drew1) | exact HB.out))) : w.heap.size ≤ gb126)); have n3_ := Aside0.mk ((by rw [hg]; exact (below_size (by repeat (first | (with_reducible first | exact HB.out | apply below_alloc | apply pw_below_drewN | apply below_drew1) | exact HB.out))) : w.heap.size ≤ gb126)); clear HB; have HB := n0_; have BK126 := n1_; have GW126 := n2_; have GE126 := n3_; clear n0_ n1_ n2_ n3_; clear hb hbox hg)))
  (try simp only [Act.put, List.setIfInBounds_toArray, List.set_cons_zero, List.set_cons_succ])
  go_cut [13] (fun v13 wc => ∃ (kq : Nat) (x13_1 : Bool), v13 = .bool x13_1 ∧ Aside0 (trestleref14_Check.j0 kq x13_1 a0_0 l0_1 = some (r1, r2)) ∧ Aside0 (kq ≤ k) ∧ Aside0 (wc.heap[gb126]? = some (.cells #[.int .i64 a0_0, (.slice A0_1 l0_1.length c0_1)] 24 (0, 0))) ∧ Aside0 (Below w.heap.size w wc))
  case first =>
    have H := HC2.out
    clear HC2
    by_cases c4 : a0_0 < 0
    · rw [if_pos c4] at H
      have c4b0 : decide (a0_0 < 0) = true := decide_eq_true c4
      clear c4
      (first | rw [c4b0] | (simp only [i64_w, i32_w]; rw [c4b0]) | skip)
      have H' := Aside0.mk H
      clear H
      have hcz5_0 : w3.cell? ⟨gb126, 0, none⟩ = some (.int .i64 a0_0) := (blk_cell BK126.out 0).trans rfl
      have hcz5_1 : w3.cell? ⟨gb126, 1, none⟩ = some (.slice A0_1 l0_1.length c0_1) := (blk_cell BK126.out 1).trans rfl
      have hfz5_0 := blk_frozen BK126.out 0
      have hfz5_1 := blk_frozen BK126.out 1
      go_wp2
      repeat (go_quiet (fail); try go_wp2)
      go_meet
      case rel => exact ⟨_, (true), (by first | rfl | (simp; done) | (simp [*]; done)), H', ⟨by first | omega | exact Nat.le_refl _⟩, ⟨by (with_reducible repeat (first | refine blk_drewN ?_ _ | refine blk_drew ?_ | refine blk_alloc ?_ _)); exact BK126.out⟩, ⟨by repeat (first | (with_reducible first | exact HB.out | apply below_alloc | apply pw_below_drewN | apply below_drew1 | refine below_set ?_ GE126.out) | exact HB.out)⟩⟩
    · rw [if_neg c4] at H
      have c4b0 : decide (a0_0 < 0) = false := decide_eq_false c4
      clear c4
      (first | rw [c4b0] | (simp only [i64_w, i32_w]; rw [c4b0]) | skip)
      have H' := Aside0.mk H
      clear H
      have hcz6_0 : w3.cell? ⟨gb126, 0, none⟩ = some (.int .i64 a0_0) := (blk_cell BK126.out 0).trans rfl
      have hcz6_1 : w3.cell? ⟨gb126, 1, none⟩ = some (.slice A0_1 l0_1.length c0_1) := (blk_cell BK126.out 1).trans rfl
      have hfz6_0 := blk_frozen BK126.out 0
      have hfz6_1 := blk_frozen BK126.out 1
      go_wp2
      repeat (go_quiet (fail); try go_wp2)
      go_meet
      case rel => exact ⟨_, (decide (a0_0 > 262144)), (by first | rfl | (simp; done) | (simp [*]; done)), H', ⟨by first | omega | exact Nat.le_refl _⟩, ⟨by (with_reducible repeat (first | refine blk_drewN ?_ _ | refine blk_drew ?_ | refine blk_alloc ?_ _)); exact BK126.out⟩, ⟨by repeat (first | (with_reducible first | exact HB.out | apply below_alloc | apply pw_below_drewN | apply below_drew1 | refine below_set ?_ GE126.out) | exact HB.out)⟩⟩
  case rest =>
    clear HC2
    try clear p2
    try clear c4
    try clear c4b0
    try clear hcz5_0
    try clear hcz5_1
    try clear hcz6_0
    try clear hcz6_1
    try clear hfz5_0
    try clear hfz5_1
    try clear hfz6_0
    try clear hfz6_1
    obtain ⟨kq, x13_1, rfl, HA, HJ1, BK126, HB⟩ := hcut
    cases kq with
    | zero => exact absurd HA.out (by simp [trestleref14_Check.j0])
    | succ kj1 =>
      have H := HA.out
      clear HA
      simp only [trestleref14_Check.j0] at H
      by_cases c7 : x13_1 = true
      · subst c7
        have H1 : (some (0, 1)) = some (r1, r2) := by rw [if_pos rfl] at H; exact H
        clear H
        have H := H1
        clear H1
        simp only [Option.some.injEq, Prod.mk.injEq] at H
        obtain ⟨rfl, rfl⟩ := H
        go_wp2
        repeat (go_quiet (fail); try go_wp2)
        go_ret2
        exact ⟨by first | rfl | (simp [errW_none, errW_some] <;> rfl) | (simp [*, errW_none, errW_some] <;> rfl), by repeat (first | (with_reducible first | exact HB.out | apply below_alloc | apply pw_below_drewN | apply below_drew1 | refine below_set ?_ GE126.out) | exact HB.out)⟩
      · replace c7 := Bool.eq_false_iff.mpr c7
        subst c7
        have H1 : (if (l0_1.length : Int) > 524288 then (some (0, 2)) else (trestleref14_Check.l0 kj1 0 a0_0 l0_1)) = some (r1, r2) := by rw [if_neg (show ¬ (false = true) by decide)] at H; exact H
        clear H
        have H := H1
        clear H1
        by_cases c8 : (l0_1.length : Int) > 524288
        · rw [if_pos c8] at H
          have c8b0 : decide (524288 < (l0_1.length : Int)) = true := decide_eq_true c8
          have c8b1 : decide (524288 < l0_1.length) = true := decide_eq_true (by omega)
          clear c8
          simp only [Option.some.injEq, Prod.mk.injEq] at H
          obtain ⟨rfl, rfl⟩ := H
          have hcz9_0 : wc.cell? ⟨gb126, 0, none⟩ = some (.int .i64 a0_0) := (blk_cell BK126.out 0).trans rfl
          have hcz9_1 : wc.cell? ⟨gb126, 1, none⟩ = some (.slice A0_1 l0_1.length c0_1) := (blk_cell BK126.out 1).trans rfl
          have hfz9_0 := blk_frozen BK126.out 0
          have hfz9_1 := blk_frozen BK126.out 1
          go_wp2
          repeat (go_quiet (fail); try go_wp2)
          go_ret2
          exact ⟨by first | rfl | (simp [errW_none, errW_some] <;> rfl) | (simp [*, errW_none, errW_some] <;> rfl), by repeat (first | (with_reducible first | exact HB.out | apply below_alloc | apply pw_below_drewN | apply below_drew1 | refine below_set ?_ GE126.out) | exact HB.out)⟩
        · rw [if_neg c8] at H
          have c8b0 : decide (524288 < (l0_1.length : Int)) = false := decide_eq_false c8
          have c8b1 : decide (524288 < l0_1.length) = false := decide_eq_false (by omega)
          clear c8
          have H' := Aside0.mk H
          clear H
          have hcz10_0 : wc.cell? ⟨gb126, 0, none⟩ = some (.int .i64 a0_0) := (blk_cell BK126.out 0).trans rfl
          have hcz10_1 : wc.cell? ⟨gb126, 1, none⟩ = some (.slice A0_1 l0_1.length c0_1) := (blk_cell BK126.out 1).trans rfl
          have hfz10_0 := blk_frozen BK126.out 0
          have hfz10_1 := blk_frozen BK126.out 1
          go_wp2
          repeat (go_quiet (fail); try go_wp2)
          go_loopg [4] kj1 (fun kq v4 w' => ∃ (x4_2 : Int), v4 = .int .i64 x4_2 ∧ Aside0 (trestleref14_Check.l0 kq x4_2 a0_0 l0_1 = some (r1, r2)) ∧ Aside0 (kq ≤ kj1) ∧ Aside0 (w'.heap[gb126]? = some (.cells #[.int .i64 a0_0, (.slice A0_1 l0_1.length c0_1)] 24 (0, 0))) ∧ Aside0 (Below w.heap.size w w'))
          case atStart => exact ⟨(0), (by first | rfl | (simp; done) | (simp [*]; done)), H', ⟨Nat.le_refl _⟩, ⟨by (with_reducible repeat (first | refine blk_drewN ?_ _ | refine blk_drew ?_ | refine blk_alloc ?_ _)); exact BK126.out⟩, ⟨by repeat (first | (with_reducible first | exact HB.out | apply below_alloc | apply pw_below_drewN | apply below_drew1 | refine below_set ?_ GE126.out) | exact HB.out)⟩⟩
          case round =>
            clear H'
            try clear p2
            try clear c4
            try clear c4b0
            try clear c7
            try clear c8
            try clear c8b0
            try clear c8b1
            try clear hcz10_0
            try clear hcz10_1
            try clear hcz5_0
            try clear hcz5_1
            try clear hcz6_0
            try clear hcz6_1
            try clear hcz9_0
            try clear hcz9_1
            try clear hfz10_0
            try clear hfz10_1
            try clear hfz5_0
            try clear hfz5_1
            try clear hfz6_0
            try clear hfz6_1
            try clear hfz9_0
            try clear hfz9_1
            try clear p2
            obtain ⟨x4_2, rfl, HA, HK2, BK126, HB⟩ := hrel
            cases gk with
            | zero => exact absurd HA.out (by simp [trestleref14_Check.l0])
            | succ k2 =>
              have H := HA.out
              clear HA
              simp only [trestleref14_Check.l0] at H
              by_cases c11 : x4_2 < (l0_1.length : Int)
              · rw [if_pos c11] at H
                have c11b0 : decide (x4_2 < (l0_1.length : Int)) = true := decide_eq_true c11
                clear c11
                by_cases c12 : 0 ≤ x4_2
                · rw [if_pos c12] at H
                  have c12b0 : decide (0 ≤ x4_2) = true := decide_eq_true c12
                  clear c12
                  replace H := Option.bind_eq_some_iff.mp H
                  obtain ⟨t128, A130, H⟩ := H
                  replace H : (if t128 = 0 then (trestleref14_Check.l0 k2 (wrap64 (x4_2 + 1)) a0_0 l0_1) else (some (x4_2, t128))) = some (r1, r2) := H
                  have A13 := Aside0.mk A130
                  clear A130
                  by_cases c14 : t128 = 0
                  · rw [if_pos c14] at H
                    have c14b0 : (t128 == 0) = true := beq_iff_eq.mpr c14
                    have c14b1 : (t128 != 0) = false := bne_eq_false_iff_eq.mpr c14
                    clear c14
                    have H' := Aside0.mk H
                    clear H
                    have hcz15_0 : wr.cell? ⟨gb126, 0, none⟩ = some (.int .i64 a0_0) := (blk_cell BK126.out 0).trans rfl
                    have hcz15_1 : wr.cell? ⟨gb126, 1, none⟩ = some (.slice A0_1 l0_1.length c0_1) := (blk_cell BK126.out 1).trans rfl
                    have hfz15_0 := blk_frozen BK126.out 0
                    have hfz15_1 := blk_frozen BK126.out 1
                    have p127 : 0 ≤ (x4_2 : Int) := of_decide_eq_true (by first | (with_reducible assumption) | assumption)
                    have q127 : x4_2 < (l0_1.length : Int) := of_decide_eq_true (by first | (with_reducible assumption) | assumption)
                    obtain ⟨ad127, A127_0, c127_0, e127, hx127_0, hl127_0, hi127_0⟩ := at_L1 HR0_1.out x4_2 p127 q127
                    cases e127
                    replace hx127_0 := (HB.out.cell (World.block_lt_of_cell? w _ hx127_0)).trans hx127_0
                    have HR127_0 := Aside0.mk hi127_0
                    have HC127_0 := Aside0.mk hl127_0
                    clear hi127_0 hl127_0
                    replace p127 := eq_true p127
                    replace q127 := eq_true q127
                    go_wp2_with (first | (go_at_call 72; (with_reducible refine (trestleref14_Lits.calls k2 _ _ (rd_L1 l0_1 x4_2) a0_0 t128 _ ?side1 ?side2 A13.out).mono ?_); (case side1 => repeat (first | exact (Kd.C_below HR127_0.out HB.out) | (with_reducible refine Kd.C_alloc ?_ _) | (with_reducible refine Kd.C_drewN ?_ _) | (with_reducible refine Kd.C_drew ?_))); (case side2 => exact HC127_0.out); rintro e w' ⟨rfl, ⟨nd, rfl⟩⟩; (try first | exact ⟨rfl, _, World.drewN_drewN _ _ _⟩ | exact ⟨rfl, _, Eq.trans (World.drewN_drewN _ _ _) (congrArg (World.drewN _) (Nat.add_assoc _ _ _))⟩)))
                    repeat (go_quiet (first | (go_at_call 72; (with_reducible refine (trestleref14_Lits.calls k2 _ _ (rd_L1 l0_1 x4_2) a0_0 t128 _ ?side1 ?side2 A13.out).mono ?_); (case side1 => repeat (first | exact (Kd.C_below HR127_0.out HB.out) | (with_reducible refine Kd.C_alloc ?_ _) | (with_reducible refine Kd.C_drewN ?_ _) | (with_reducible refine Kd.C_drew ?_))); (case side2 => exact HC127_0.out); rintro e w' ⟨rfl, ⟨nd, rfl⟩⟩; (try first | exact ⟨rfl, _, World.drewN_drewN _ _ _⟩ | exact ⟨rfl, _, Eq.trans (World.drewN_drewN _ _ _) (congrArg (World.drewN _) (Nat.add_assoc _ _ _))⟩))); try go_wp2_with (first | (go_at_call 72; (with_reducible refine (trestleref14_Lits.calls k2 _ _ (rd_L1 l0_1 x4_2) a0_0 t128 _ ?side1 ?side2 A13.out).mono ?_); (case side1 => repeat (first | exact (Kd.C_below HR127_0.out HB.out) | (with_reducible refine Kd.C_alloc ?_ _) | (with_reducible refine Kd.C_drewN ?_ _) | (with_reducible refine Kd.C_drew ?_))); (case side2 => exact HC127_0.out); rintro e w' ⟨rfl, ⟨nd, rfl⟩⟩; (try first | exact ⟨rfl, _, World.drewN_drewN _ _ _⟩ | exact ⟨rfl, _, Eq.trans (World.drewN_drewN _ _ _) (congrArg (World.drewN _) (Nat.add_assoc _ _ _))⟩))))
                    go_roundg k2
                    case measure => have := HJ1.out; have := HK2.out; omega
                    case rel => exact ⟨(wrap64 (x4_2 + 1)), (by first | rfl | (simp; done) | (simp [*]; done)), H', ⟨by have := HJ1.out; have := HK2.out; omega⟩, ⟨by (with_reducible repeat (first | refine blk_drewN ?_ _ | refine blk_drew ?_ | refine blk_alloc ?_ _)); exact BK126.out⟩, ⟨by repeat (first | (with_reducible first | exact HB.out | apply below_alloc | apply pw_below_drewN | apply below_drew1 | refine below_set ?_ GE126.out) | exact HB.out)⟩⟩
                  · rw [if_neg c14] at H
                    have c14b0 : (t128 == 0) = false := beq_eq_false_iff_ne.mpr c14
                    have c14b1 : (t128 != 0) = true := bne_iff_ne.mpr c14
                    simp only [Option.some.injEq, Prod.mk.injEq] at H
                    obtain ⟨rfl, rfl⟩ := H
                    have hcz16_0 : wr.cell? ⟨gb126, 0, none⟩ = some (.int .i64 a0_0) := (blk_cell BK126.out 0).trans rfl
                    have hcz16_1 : wr.cell? ⟨gb126, 1, none⟩ = some (.slice A0_1 l0_1.length c0_1) := (blk_cell BK126.out 1).trans rfl
                    have hfz16_0 := blk_frozen BK126.out 0
                    have hfz16_1 := blk_frozen BK126.out 1
                    have p127 : 0 ≤ (x4_2 : Int) := of_decide_eq_true (by first | (with_reducible assumption) | assumption)
                    have q127 : x4_2 < (l0_1.length : Int) := of_decide_eq_true (by first | (with_reducible assumption) | assumption)
                    obtain ⟨ad127, A127_0, c127_0, e127, hx127_0, hl127_0, hi127_0⟩ := at_L1 HR0_1.out x4_2 p127 q127
                    cases e127
                    replace hx127_0 := (HB.out.cell (World.block_lt_of_cell? w _ hx127_0)).trans hx127_0
                    have HR127_0 := Aside0.mk hi127_0
                    have HC127_0 := Aside0.mk hl127_0
                    clear hi127_0 hl127_0
                    replace p127 := eq_true p127
                    replace q127 := eq_true q127
                    go_wp2_with (first | (go_at_call 72; (with_reducible refine (trestleref14_Lits.calls k2 _ _ (rd_L1 l0_1 x4_2) a0_0 t128 _ ?side1 ?side2 A13.out).mono ?_); (case side1 => repeat (first | exact (Kd.C_below HR127_0.out HB.out) | (with_reducible refine Kd.C_alloc ?_ _) | (with_reducible refine Kd.C_drewN ?_ _) | (with_reducible refine Kd.C_drew ?_))); (case side2 => exact HC127_0.out); rintro e w' ⟨rfl, ⟨nd, rfl⟩⟩; (try first | exact ⟨rfl, _, World.drewN_drewN _ _ _⟩ | exact ⟨rfl, _, Eq.trans (World.drewN_drewN _ _ _) (congrArg (World.drewN _) (Nat.add_assoc _ _ _))⟩)))
                    repeat (go_quiet (first | (go_at_call 72; (with_reducible refine (trestleref14_Lits.calls k2 _ _ (rd_L1 l0_1 x4_2) a0_0 t128 _ ?side1 ?side2 A13.out).mono ?_); (case side1 => repeat (first | exact (Kd.C_below HR127_0.out HB.out) | (with_reducible refine Kd.C_alloc ?_ _) | (with_reducible refine Kd.C_drewN ?_ _) | (with_reducible refine Kd.C_drew ?_))); (case side2 => exact HC127_0.out); rintro e w' ⟨rfl, ⟨nd, rfl⟩⟩; (try first | exact ⟨rfl, _, World.drewN_drewN _ _ _⟩ | exact ⟨rfl, _, Eq.trans (World.drewN_drewN _ _ _) (congrArg (World.drewN _) (Nat.add_assoc _ _ _))⟩))); try go_wp2_with (first | (go_at_call 72; (with_reducible refine (trestleref14_Lits.calls k2 _ _ (rd_L1 l0_1 x4_2) a0_0 t128 _ ?side1 ?side2 A13.out).mono ?_); (case side1 => repeat (first | exact (Kd.C_below HR127_0.out HB.out) | (with_reducible refine Kd.C_alloc ?_ _) | (with_reducible refine Kd.C_drewN ?_ _) | (with_reducible refine Kd.C_drew ?_))); (case side2 => exact HC127_0.out); rintro e w' ⟨rfl, ⟨nd, rfl⟩⟩; (try first | exact ⟨rfl, _, World.drewN_drewN _ _ _⟩ | exact ⟨rfl, _, Eq.trans (World.drewN_drewN _ _ _) (congrArg (World.drewN _) (Nat.add_assoc _ _ _))⟩))))
                    go_ret2
                    exact ⟨by first | rfl | (simp [errW_none, errW_some] <;> rfl) | (simp [*, errW_none, errW_some] <;> rfl), by repeat (first | (with_reducible first | exact HB.out | apply below_alloc | apply pw_below_drewN | apply below_drew1 | refine below_set ?_ GE126.out) | exact HB.out)⟩
                · rw [if_neg c12] at H
                  exact absurd H (by simp)
              · rw [if_neg c11] at H
                have c11b0 : decide (x4_2 < (l0_1.length : Int)) = false := decide_eq_false c11
                clear c11
                simp only [Option.some.injEq, Prod.mk.injEq] at H
                obtain ⟨rfl, rfl⟩ := H
                have hcz17_0 : wr.cell? ⟨gb126, 0, none⟩ = some (.int .i64 a0_0) := (blk_cell BK126.out 0).trans rfl
                have hcz17_1 : wr.cell? ⟨gb126, 1, none⟩ = some (.slice A0_1 l0_1.length c0_1) := (blk_cell BK126.out 1).trans rfl
                have hfz17_0 := blk_frozen BK126.out 0
                have hfz17_1 := blk_frozen BK126.out 1
                go_wp2
                repeat (go_quiet (fail); try go_wp2)
                go_ret2
                exact ⟨by first | rfl | (simp [errW_none, errW_some] <;> rfl) | (simp [*, errW_none, errW_some] <;> rfl), by repeat (first | (with_reducible first | exact HB.out | apply below_alloc | apply pw_below_drewN | apply below_drew1 | refine below_set ?_ GE126.out) | exact HB.out)⟩

end Go.Proofs.Ythhmjfjkbmmcaaa.GCO
-- written by a program of this session's own (gprint.py), after the kit's print
namespace Go.Proofs.Ythhmjfjkbmmcaaa.GCO
open Go.RowKit Go.Proofs.YthhmjfjkbmmcaaaW.PrintWords Go.Proofs.YthhmjfjkbmmcaaaW.PrintLast Go.Proofs.YthhmjfjkbmmcaaaW.PrintMore
attribute [local go_sem] max2_int min2_int max_two min_two max_three min_three max_four min_four   -- for this text's walks alone
set_option linter.unusedVariables false
set_option linter.unusedSimpArgs false

/-! ### trestleref19_checked: function 24 -/
def trestleref19_checked.f (k : Nat) (a0_0 : Int) (l0_1 : List (List Int)) : Option ((List (List Int)) × Int) := (trestleref14_Check.f k a0_0 l0_1).bind fun bt151 => (if bt151.2 = 0 then ((trestleref19_tidy.f k l0_1).bind fun t153 => (some (t153, 0))) else (some (([] : List (List Int)), bt151.2)))
set_option maxHeartbeats 8000000 in
set_option maxRecDepth 100000 in
theorem trestleref19_checked.calls (k : Nat) (a0_0 : Int) (A0_1 : Option Addr) (c0_1 : Nat) (l0_1 : List (List Int)) (r1 : List (List Int)) (r2 : Int) (w : World) (hr0_1 : Kd.C (Kd.slice 3 (Kd.int .i64)) w A0_1 l0_1.length l0_1) (hc0_1 : l0_1.length ≤ c0_1) (h : trestleref19_checked.f k a0_0 l0_1 = some (r1, r2)) :
    Calls Try.prog 24 #[.agg #[.int .i64 a0_0, .slice A0_1 l0_1.length c0_1]] w fun e w' => ∃ v0_ : Value, e = .returned (.tuple #[v0_, .int .i64 r2]) ∧ Kd.N (Kd.slice 3 (Kd.int .i64)) 43 w' w.heap.size (fun k_ => (w.heap.size ≤ k_)) v0_ r1 ∧ Below w.heap.size w w' := by
  have hu24 := Try.underlying24
  have HR0_1 := Aside0.mk hr0_1
  have HC0_1 := Aside0.mk hc0_1
  clear hr0_1 hc0_1
  have HB := Aside0.mk (Below.refl w.heap.size w)
  have H : ((trestleref14_Check.f k a0_0 l0_1).bind fun bt151 => (if bt151.2 = 0 then ((trestleref19_tidy.f k l0_1).bind fun t153 => (some (t153, 0))) else (some (([] : List (List Int)), bt151.2)))) = some (r1, r2) := h
  clear h
  replace H := Option.bind_eq_some_iff.mp H
  obtain ⟨⟨t151, t152⟩, A20, H⟩ := H
  replace H : (if t152 = 0 then ((trestleref19_tidy.f k l0_1).bind fun t153 => (some (t153, 0))) else (some (([] : List (List Int)), t152))) = some (r1, r2) := H
  have A2 := Aside0.mk A20
  clear A20
  by_cases c3 : t152 = 0
  · rw [if_pos c3] at H
    have c3b0 : (t152 == 0) = true := beq_iff_eq.mpr c3
    have c3b1 : (t152 != 0) = false := bne_eq_false_iff_eq.mpr c3
    clear c3
    replace H := Option.bind_eq_some_iff.mp H
    obtain ⟨t153, A40, H⟩ := H
    replace H : (some (t153, 0)) = some (r1, r2) := H
    have A4 := Aside0.mk A40
    clear A40
    simp only [Option.some.injEq, Prod.mk.injEq] at H
    obtain ⟨rfl, rfl⟩ := H
    go_enter Try.func24, Try.ntmps24
    go_wp2_with (first | ((with_reducible refine gate_dst (N := 1) rfl ?_); refine box_event ?hg (N := 1) ?hd (cs := #[.int .i64 a0_0, .slice A0_1 l0_1.length c0_1]) (t := 24) ?hr ?_; (case hd => rfl); (case hg => rfl); (case hr => first | (go_simp; done) | (go_simp; rfl)); intro gb150 hg w5 hbox hb; have n0_ := Aside0.mk (below_step (by repeat (first | (with_reducible first | exact HB.out | apply below_alloc | apply pw_below_drewN | apply below_drew1) | exact HB.out)) hb); have n1_ := Aside0.mk (hbox); have n2_ := Aside0.mk ((by rw [hg]; exact (below_size (by repeat (first | (with_reducible first | exact HB.out | apply below_alloc | apply pw_below_drewN | apply below_drew1) | exact HB.out))) : w.heap.size ≤ gb150)); have n3_ := Aside0.mk ((by rw [hg]; exact (below_size (by repeat (first | (with_reducible first | exact HB.out | apply below_alloc | apply pw_below_drewN | apply below_drew1) | exact HB.out))) : w.heap.size ≤ gb150)); clear HB; have HB := n0_; have BK150 := n1_; have GW150 := n2_; have GE150 := n3_; clear n0_ n1_ n2_ n3_; clear hb hbox hg; have hcz6_0 : w5.cell? ⟨gb150, 0, none⟩ = some (.int .i64 a0_0) := (blk_cell BK150.out 0).trans rfl; have hcz6_1 : w5.cell? ⟨gb150, 1, none⟩ = some (.slice A0_1 l0_1.length c0_1) := (blk_cell BK150.out 1).trans rfl; have hfz6_0 := blk_frozen BK150.out 0; have hfz6_1 := blk_frozen BK150.out 1) | ((with_reducible refine gate_callee (f := 45) rfl ?_); refine goesL_ (some 8) rfl rfl Try.func45 (by kernel_rfl) rfl #[.agg #[.int .i64 a0_0, .slice A0_1 l0_1.length c0_1]] rfl (by (try simp only [List.map_toArray, List.map_cons, List.map_nil]); first | done | rfl | (simp only [List.length_drop, List.length_take]; rfl)) ?_; (with_reducible refine (trestleref14_Check.calls k a0_0 _ _ l0_1 t151 t152 _ ?side1 ?side2 A2.out).mono ?_); (case side1 => repeat (first | exact (Kd.C_below HR0_1.out HB.out) | (with_reducible refine Kd.C_alloc ?_ _) | (with_reducible refine Kd.C_drewN ?_ _) | (with_reducible refine Kd.C_drew ?_))); (case side2 => exact HC0_1.out); rintro e w7 ⟨rfl, hb⟩; refine ⟨_, rfl, ?_⟩; have n0_ := Aside0.mk (blk_below (g := gb150) (o := .cells #[.int .i64 a0_0, .slice A0_1 l0_1.length c0_1] 24 (0, 0)) (by (with_reducible repeat (first | refine blk_drewN ?_ _ | refine blk_drew ?_ | refine blk_alloc ?_ _)); exact BK150.out) hb); have n1_ := Aside0.mk (below_step (by repeat (first | (with_reducible first | exact HB.out | apply below_alloc | apply pw_below_drewN | apply below_drew1 | refine below_set ?_ GE150.out) | exact HB.out)) hb); clear BK150; clear HB; have BK150 := n0_; have HB := n1_; clear n0_ n1_; (try clear hb); (try clear hb2); (try clear hk); (try clear hi); have hcz8_0 : w7.cell? ⟨gb150, 0, none⟩ = some (.int .i64 a0_0) := (blk_cell BK150.out 0).trans rfl; have hcz8_1 : w7.cell? ⟨gb150, 1, none⟩ = some (.slice A0_1 l0_1.length c0_1) := (blk_cell BK150.out 1).trans rfl; have hfz8_0 := blk_frozen BK150.out 0; have hfz8_1 := blk_frozen BK150.out 1) | ((with_reducible refine gate_callee (f := 46) rfl ?_); refine goesL_ (some 16) rfl rfl Try.func46 (by kernel_rfl) rfl #[.slice A0_1 l0_1.length c0_1] rfl (by (try simp only [List.map_toArray, List.map_cons, List.map_nil]); first | done | rfl | (simp only [List.length_drop, List.length_take]; rfl)) ?_; (with_reducible refine (trestleref19_tidy.calls k _ _ l0_1 t153 _ ?side1 ?side2 A4.out).mono ?_); (case side1 => repeat (first | exact (Kd.C_below HR0_1.out HB.out) | (with_reducible refine Kd.C_alloc ?_ _) | (with_reducible refine Kd.C_drewN ?_ _) | (with_reducible refine Kd.C_drew ?_))); (case side2 => exact HC0_1.out); rintro e w9 ⟨v154, rfl, ho0, hb⟩; refine ⟨_, rfl, ?_⟩; have n0_ := Aside0.mk (Kd.N_lower (Kd.N_mono (ok' := fun k_ => (w.heap.size ≤ k_) ∧ k_ ≠ gb150) ho0 (fun k_ hk_ => ⟨(Nat.le_trans (below_size (by repeat (first | (with_reducible first | exact HB.out | apply below_alloc | apply pw_below_drewN | apply below_drew1 | refine below_set ?_ GE150.out) | exact HB.out))) hk_), (Kd.freshB (g := gb150) (o := .cells #[.int .i64 a0_0, .slice A0_1 l0_1.length c0_1] 24 (0, 0)) (by (with_reducible repeat (first | refine blk_drewN ?_ _ | refine blk_drew ?_ | refine blk_alloc ?_ _)); exact BK150.out) k_ hk_)⟩)) (below_size (by repeat (first | (with_reducible first | exact HB.out | apply below_alloc | apply pw_below_drewN | apply below_drew1 | refine below_set ?_ GE150.out) | exact HB.out)))); have n1_ := Aside0.mk (blk_below (g := gb150) (o := .cells #[.int .i64 a0_0, .slice A0_1 l0_1.length c0_1] 24 (0, 0)) (by (with_reducible repeat (first | refine blk_drewN ?_ _ | refine blk_drew ?_ | refine blk_alloc ?_ _)); exact BK150.out) hb); have n2_ := Aside0.mk (below_step (by repeat (first | (with_reducible first | exact HB.out | apply below_alloc | apply pw_below_drewN | apply below_drew1 | refine below_set ?_ GE150.out) | exact HB.out)) hb); clear BK150; clear HB; have HO155 := n0_; have BK150 := n1_; have HB := n2_; clear n0_ n1_ n2_; (try clear hb); (try clear hb2); (try clear hk); (try clear hi); (try clear ho0)))
    go_ret2
    exact ⟨_, by first | rfl | (simp [errW_none, errW_some] <;> rfl) | (simp [*, errW_none, errW_some] <;> rfl), by (with_reducible repeat (first | apply Kd.N_alloc | apply Kd.N_drewN | apply Kd.N_drew)); exact Kd.N_mono HO155.out (fun _ hk => hk.1), by repeat (first | (with_reducible first | exact HB.out | apply below_alloc | apply pw_below_drewN | apply below_drew1 | refine below_set ?_ GE150.out) | exact HB.out)⟩
  · rw [if_neg c3] at H
    have c3b0 : (t152 == 0) = false := beq_eq_false_iff_ne.mpr c3
    have c3b1 : (t152 != 0) = true := bne_iff_ne.mpr c3
    simp only [Option.some.injEq, Prod.mk.injEq] at H
    obtain ⟨rfl, rfl⟩ := H
    go_enter Try.func24, Try.ntmps24
    go_wp2_with (first | ((with_reducible refine gate_dst (N := 1) rfl ?_); refine box_event ?hg (N := 1) ?hd (cs := #[.int .i64 a0_0, .slice A0_1 l0_1.length c0_1]) (t := 24) ?hr ?_; (case hd => rfl); (case hg => rfl); (case hr => first | (go_simp; done) | (go_simp; rfl)); intro gb150 hg w10 hbox hb; have n0_ := Aside0.mk (below_step (by repeat (first | (with_reducible first | exact HB.out | apply below_alloc | apply pw_below_drewN | apply below_drew1) | exact HB.out)) hb); have n1_ := Aside0.mk (hbox); have n2_ := Aside0.mk ((by rw [hg]; exact (below_size (by repeat (first | (with_reducible first | exact HB.out | apply below_alloc | apply pw_below_drewN | apply below_drew1) | exact HB.out))) : w.heap.size ≤ gb150)); have n3_ := Aside0.mk ((by rw [hg]; exact (below_size (by repeat (first | (with_reducible first | exact HB.out | apply below_alloc | apply pw_below_drewN | apply below_drew1) | exact HB.out))) : w.heap.size ≤ gb150)); clear HB; have HB := n0_; have BK150 := n1_; have GW150 := n2_; have GE150 := n3_; clear n0_ n1_ n2_ n3_; clear hb hbox hg; have hcz11_0 : w10.cell? ⟨gb150, 0, none⟩ = some (.int .i64 a0_0) := (blk_cell BK150.out 0).trans rfl; have hcz11_1 : w10.cell? ⟨gb150, 1, none⟩ = some (.slice A0_1 l0_1.length c0_1) := (blk_cell BK150.out 1).trans rfl; have hfz11_0 := blk_frozen BK150.out 0; have hfz11_1 := blk_frozen BK150.out 1) | ((with_reducible refine gate_callee (f := 45) rfl ?_); refine goesL_ (some 8) rfl rfl Try.func45 (by kernel_rfl) rfl #[.agg #[.int .i64 a0_0, .slice A0_1 l0_1.length c0_1]] rfl (by (try simp only [List.map_toArray, List.map_cons, List.map_nil]); first | done | rfl | (simp only [List.length_drop, List.length_take]; rfl)) ?_; (with_reducible refine (trestleref14_Check.calls k a0_0 _ _ l0_1 t151 t152 _ ?side1 ?side2 A2.out).mono ?_); (case side1 => repeat (first | exact (Kd.C_below HR0_1.out HB.out) | (with_reducible refine Kd.C_alloc ?_ _) | (with_reducible refine Kd.C_drewN ?_ _) | (with_reducible refine Kd.C_drew ?_))); (case side2 => exact HC0_1.out); rintro e w12 ⟨rfl, hb⟩; refine ⟨_, rfl, ?_⟩; have n0_ := Aside0.mk (blk_below (g := gb150) (o := .cells #[.int .i64 a0_0, .slice A0_1 l0_1.length c0_1] 24 (0, 0)) (by (with_reducible repeat (first | refine blk_drewN ?_ _ | refine blk_drew ?_ | refine blk_alloc ?_ _)); exact BK150.out) hb); have n1_ := Aside0.mk (below_step (by repeat (first | (with_reducible first | exact HB.out | apply below_alloc | apply pw_below_drewN | apply below_drew1 | refine below_set ?_ GE150.out) | exact HB.out)) hb); clear BK150; clear HB; have BK150 := n0_; have HB := n1_; clear n0_ n1_; (try clear hb); (try clear hb2); (try clear hk); (try clear hi)))
    go_ret2
    exact ⟨_, by first | rfl | (simp [errW_none, errW_some] <;> rfl) | (simp [*, errW_none, errW_some] <;> rfl), by first | exact Kd.S_nil _ _ _ _ _ | exact Kd.N_nil _ _ _ _ _ | exact Kd.V_nil _ _ _ _ _ | exact Kd.Q_nil _ _ _ _ _ | exact Kd.R_nil _ _ _ _ _, by repeat (first | (with_reducible first | exact HB.out | apply below_alloc | apply pw_below_drewN | apply below_drew1 | refine below_set ?_ GE150.out) | exact HB.out)⟩

end Go.Proofs.Ythhmjfjkbmmcaaa.GCO
-- written by a program of this session's own (gprint.py), after the kit's print
namespace Go.Proofs.Ythhmjfjkbmmcaaa.GCO
open Go.RowKit Go.Proofs.YthhmjfjkbmmcaaaW.PrintWords Go.Proofs.YthhmjfjkbmmcaaaW.PrintLast Go.Proofs.YthhmjfjkbmmcaaaW.PrintMore
attribute [local go_sem] max2_int min2_int max_two min_two max_three min_three max_four min_four   -- for this text's walks alone
set_option linter.unusedVariables false
set_option linter.unusedSimpArgs false

/-! ### trestlebook_CopyInts: function 37 -/
def trestlebook_CopyInts.f (l0 : List Int) : Option (List Int) := (some (([] : List Int) : List Int)).bind fun y101 => (if y101.length + l0.length < 17592186044416 then (some (y101 ++ l0)) else (none))
set_option maxHeartbeats 8000000 in
set_option maxRecDepth 100000 in
theorem trestlebook_CopyInts.calls (A0 : Option Addr) (c0 : Nat) (l0 : List Int) (r : List Int) (w : World) (hr0 : Kd.C (Kd.int .i64) w A0 l0.length l0) (hc0 : l0.length ≤ c0) (h : trestlebook_CopyInts.f l0 = some r) :
    Calls Try.prog 37 #[.slice A0 l0.length c0] w fun e w' => ∃ v0_ : Value, e = .returned (v0_) ∧ Kd.R (Kd.int .i64) 3 w' w.heap.size (fun _ => True) v0_ r ∧ Below w.heap.size w w' := by
  have HR0 := Aside0.mk hr0
  have HC0 := Aside0.mk hc0
  clear hr0 hc0
  have HB := Aside0.mk (Below.refl w.heap.size w)
  have H : ((some (([] : List Int) : List Int)).bind fun y101 => (if y101.length + l0.length < 17592186044416 then (some (y101 ++ l0)) else (none))) = some r := h
  clear h
  obtain ⟨y101, hy101⟩ : ∃ y_ : List Int, y_ = (([] : List Int)) := ⟨_, rfl⟩
  replace H : (if y101.length + l0.length < 17592186044416 then (some (y101 ++ l0)) else (none)) = some r := by first | (rw [hy101]; with_reducible exact H) | (have H2_ := (Option.bind_some _ _).symm.trans H; rw [hy101]; with_reducible exact H2_) | (have H2_ := (Option.bind_some _ _).symm.trans H; with_reducible exact H2_) | with_reducible exact H | (rw [hy101]; exact H) | exact H
  have Ny101 := Aside0.mk hy101
  clear hy101
  by_cases c2 : y101.length + l0.length < 17592186044416
  · rw [if_pos c2] at H
    have LMc2 := Aside0.mk c2
    clear c2
    obtain ⟨y104, hy104⟩ : ∃ y_ : List Int, y_ = (y101 ++ l0) := ⟨_, rfl⟩
    replace H : (some y104) = some r := by first | (rw [hy104]; with_reducible exact H) | (have H2_ := (Option.bind_some _ _).symm.trans H; rw [hy104]; with_reducible exact H2_) | (have H2_ := (Option.bind_some _ _).symm.trans H; with_reducible exact H2_) | with_reducible exact H | (rw [hy104]; exact H) | exact H
    have Ny104 := Aside0.mk hy104
    clear hy104
    obtain rfl := Option.some.inj H
    go_enter Try.func37, Try.ntmps37
    go_wp2_with (first | ((with_reducible refine gate_dst (N := 3) rfl ?_); refine Kd.R_lit (Kd.int .i64) _ 3 ?hg (N := 3) ?hd (xs := ([] : List Int)) (inner := []) (ok := fun _ => True) (okp := fun _ => True) ?hr ?hp (fun _ hk => hk) trivial (Below.refl _ _) (Nat.le_refl _) (by simp) ?_; (case hd => rfl); (case hg => rfl); (case hr => first | (go_simp; done) | (go_simp; rfl)); (case hp => exact (Reps.none _ _)); intro v102 w3 ho4 hb hg_ hnew_; clear hg_ hnew_; (first | rw [← Ny101.out] at ho4 | (simp only [Int.reduceToNat] at ho4; rw [← Ny101.out] at ho4)); have n0_ := Aside0.mk (Kd.R_lower ho4 (below_size (by repeat (first | (with_reducible first | exact HB.out | apply below_alloc | apply pw_below_drewN | apply below_drew1) | exact HB.out)))); have n1_ := Aside0.mk (below_step (by repeat (first | (with_reducible first | exact HB.out | apply below_alloc | apply pw_below_drewN | apply below_drew1) | exact HB.out)) hb); clear HB; have HO103 := n0_; have HB := n1_; clear n0_ n1_; clear hb ho4) | ((with_reducible refine gate_builtin (b := .append) (xs := #[.tmp 3, .tmp 4]) rfl ?_); at_builtin; refine Kd.R_append_rows (Kd.int .i64) (w0 := w) w.heap.size rfl (.tmp 3) (.tmp 4) 40 3 (.int .i64 0) 8 rfl Try.underlying40 info3 rfl (by decide) (by omega) v102 y101 l0 _ _ _ (fun _ => True) (fun _ => False) rfl rfl ?aO ?aR (fun _ _ h => h) (fun _ h => h.elim) ?aF ?aB ?aS ?aL ?_; (case aR => repeat (first | exact (Kd.C_below HR0.out HB.out) | (with_reducible refine Kd.C_alloc ?_ _) | (with_reducible refine Kd.C_drewN ?_ _) | (with_reducible refine Kd.C_drew ?_))); (case aB => exact (by repeat (first | (with_reducible first | exact HB.out | apply below_alloc | apply pw_below_drewN | apply below_drew1) | exact HB.out))); (case aF => exact (fun _ _ => trivial)); (case aO => exact (by (with_reducible repeat (first | apply Kd.R_alloc | apply Kd.R_drewN | apply Kd.R_drew)); exact HO103.out)); (case aS => exact (below_size (by repeat (first | (with_reducible first | exact HB.out | apply below_alloc | apply pw_below_drewN | apply below_drew1) | exact HB.out)))); (case aL => have := LMc2.out; omega); intro v105 w5 ho hb hg hat; rw [← Ny104.out] at ho; have n0_ := Aside0.mk (hb); have n1_ := Aside0.mk (ho); clear HB; clear HO103; have HB := n0_; have HO106 := n1_; clear n0_ n1_; clear ho hb hg hat))
    go_ret
    exact ⟨_, by first | rfl | (simp [errW_none, errW_some] <;> rfl) | (simp [*, errW_none, errW_some] <;> rfl), by (with_reducible repeat (first | apply Kd.R_alloc | apply Kd.R_drewN | apply Kd.R_drew)); exact HO106.out, by repeat (first | (with_reducible first | exact HB.out | apply below_alloc | apply pw_below_drewN | apply below_drew1) | exact HB.out)⟩
  · rw [if_neg c2] at H
    exact absurd H (by simp)

end Go.Proofs.Ythhmjfjkbmmcaaa.GCO
