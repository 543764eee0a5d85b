/- The printed program of clean.out, closed. -/
import Derived.Test.YthhmjfjkbmmcaaaKRF
import Derived.Test.YthhmjfjkbmmcaaaKRA
import Derived.Test.YthhmjfjkbmmcaaaKRB
import Derived.Test.YthhmjfjkbmmcaaaKRD
import Derived.Test.YthhmjfjkbmmcaaaKRE
import Derived.Test.YthhmjfjkbmmcaaaKRG
/- LendInts, LendCnf: copies with one more behind their ends. -/
namespace Go.Proofs.Ythhmjfjkbmmcaaa
open Go.RowKit Go.Proofs.YthhmjfjkbmmcaaaW.PrintWords Go.Proofs.YthhmjfjkbmmcaaaW.PrintLast Go.Proofs.YthhmjfjkbmmcaaaW.PrintMore
set_option linter.unusedVariables false
set_option linter.unusedSimpArgs false

set_option maxRecDepth 100000 in
set_option maxHeartbeats 2000000 in
theorem lendInts_calls (A : Option Addr) (c n : Nat) (l : List Int) (w : World) (hn : n = l.length) (hr : Kd.C (Kd.int .i64) w A n l) (hc : n ≤ c) (hl : n ≤ 1099511627776) :
    Calls Try.prog 19 #[.slice A n c] w fun e w' => ∃ g cap, e = .returned (.slice (some ⟨g, 0, none⟩) n cap) ∧ n + 1 ≤ cap ∧ w'.ownsRow w.heap.size 3 1 (.slice (some ⟨g, 0, none⟩) (n + 1) cap) (n + 1) (nums .i64 (l ++ [-77])) ∧ Below w.heap.size w w' := by
  have HC : Aside0 (Calls Try.prog 37 #[.slice A n c] w fun e w' => ∃ v, e = .returned v ∧ w'.ownsRow w.heap.size 3 1 v n (nums .i64 l) ∧ Below w.heap.size w w') := ⟨by
    subst hn
    refine (GCO.trestlebook_CopyInts.calls A c l l w hr hc ?_).mono ?_
    · unfold GCO.trestlebook_CopyInts.f
      simp only [Option.bind_some, List.length_nil, List.nil_append]
      rw [if_pos (by omega)]
    · rintro e w' ⟨v, rfl, hR, hB⟩
      exact ⟨v, rfl, Kd.own_of_R hR, hB⟩⟩
  have HN := Aside0.mk hn
  clear hr hn
  go_enter Try.func19, Try.ntmps19
  go_wp2_with (first | (go_at_call 37; refine HC.out.mono ?_; rintro e w1 ⟨v, rfl, ho, hb⟩; have HO1 := Aside0.mk ho; have HB1 := Aside0.mk hb; clear ho hb) | (at_builtin; refine law_appends rfl (.tmp 4) (.tmp 5) 40 3 (.int .i64 0) 1 8 rfl Try.underlying40 infoInt rfl (by omega) (by omega) w.heap.size _ _ _ rfl (own_alloc HO1.out _) _ 1 1 (nums .i64 [-77]) rfl (rowN_nums (xs := [-77]) (heap_alloc_new _ _) (by simp)) (by omega) (below_alloc HB1.out _).size ?_; intro v2 w2 hown hg hat; have HB2 := Aside0.mk (Below.grown (below_alloc HB1.out _) hg (below_alloc HB1.out _).size (own_base HO1.out)); obtain ⟨g, cap, rfl, hgb, hgl⟩ := hown.form (by omega); have HO2 := Aside0.mk hown; have hcap := own_le hown; clear hown hg hat hgb hgl))
  go_ret
  exact ⟨g, cap, rfl, hcap, by rw [nums_append]; exact HO2.out, HB2.out⟩

theorem cell_keep0 {w : World} {a : Addr} {u : Value} {o : Obj} (h : w.cell? a = some u) : (w.alloc o).cell? a = some u := by rw [World.cell?_alloc_lt _ _ _ (World.block_lt_of_cell? w a h)]; exact h
/-- A lent clause: its numbers, and one more behind the end; or the one behind the last. -/
def kLend : Kd (Option (List Int)) where
  sz := 1
  E := []
  K := fun w x cs => ∃ ad c n, cs = [.slice (some ad) n c] ∧ match x with
    | some xs => n = xs.length ∧ n + 1 ≤ c ∧ (Kd.int .i64).C w (some ad) (n + 1) (xs ++ [-77])
    | none => n = 1
  M := fun _ _ _ _ _ => False
  K_len := by
    rintro w x cs ⟨A, c, n, rfl, _⟩
    rfl
  K_one := by
    rintro w x cs ⟨A, c, n, rfl, _⟩ u hu
    rw [List.mem_singleton.1 hu]
    rfl
  K_below := by
    rintro w w1 x cs hb ⟨A, c, n, rfl, h⟩
    refine ⟨A, c, n, rfl, ?_⟩
    cases x with
    | none => exact h
    | some xs => exact ⟨h.1, h.2.1, Kd.C_below h.2.2 hb⟩
  K_of_M := fun h => h.elim
  M_mono := fun _ h => h
  M_bound := fun h => h
  M_move := fun _ h => h
  M_lower := fun _ h => h
theorem FK_last (W : World) (ok : Nat → Prop) (ad : Addr) (c : Nat) : Kd.FK kLend W ok none [.slice (some ad) 1 c] := fun W' _ => ⟨ad, c, 1, rfl, rfl⟩
theorem FK_lend {W : World} {B g cap n : Nat} {ok : Nat → Prop} {xs : List Int} (hn : n = xs.length) (h : W.ownsRow B 3 1 (.slice (some ⟨g, 0, none⟩) (n + 1) cap) (n + 1) (nums .i64 (xs ++ [-77]))) (hok : ok g) : Kd.FK kLend W ok (some xs) [.slice (some ⟨g, 0, none⟩) n cap] := fun W' hW => by
  subst hn
  have h' := own_move h (fun k hk => by
    have e : g = k := by simpa [Value.ownBlock] using hk
    subst e
    exact hW g hok (own_lt h g rfl))
  exact ⟨_, cap, _, rfl, rfl, own_le h', C_of_own h'⟩

set_option maxRecDepth 100000 in
set_option maxHeartbeats 4000000 in
theorem lendCnf_calls (v : Int) (A : Option Addr) (n c : Nat) (ls : List (List Int)) (w : World) (hn : n = ls.length) (hr : Kd.C kClause w A n ls) (hc : n ≤ c) (hl : n ≤ 1099511627776) (hs : ∀ l ∈ ls, l.length ≤ 1099511627776) :
    Calls Try.prog 7 #[.agg #[.int .i64 v, .slice A n c]] w fun e w' => ∃ g cap, e = .returned (.agg #[.int .i64 v, .slice (some ⟨g, 0, none⟩) n cap]) ∧ n + 1 ≤ cap ∧ Kd.C kLend w' (some ⟨g, 0, none⟩) (n + 1) (ls.map some ++ [none]) ∧ Below w.heap.size w w' := by
  have HR := Aside0.mk hr
  have HN := Aside0.mk hn
  have HS := Aside0.mk hs
  obtain ⟨w0, hw0⟩ : ∃ w0, w0 = ((w.alloc (.cells #[.int .i64 v, .slice A n c] 24)).alloc (.cells #[.int .i64 0, .slice none 0 0] 24)).alloc (.cells #[.int .i64 v, .slice none 0 0] 24) := ⟨_, rfl⟩
  have HW0 := Aside0.mk hw0
  have hx0 : (w.alloc (.cells #[.int .i64 v, .slice A n c] 24)).heap[w.heap.size]? = some (.cells #[.int .i64 v, .slice A n c] 24 (0, 0)) := heap_alloc_new w _
  have hx1 := blk_cell (blk_alloc hx0 (.cells #[.int .i64 0, .slice none 0 0] 24)) 0
  have hx2 : ((w.alloc (.cells #[.int .i64 v, .slice A n c] 24)).alloc (.cells #[.int .i64 0, .slice none 0 0] 24)).cell? ⟨w.heap.size, 0, none⟩ = some (.int .i64 v) := hx1
  clear hx0 hx1 hr hn hs hw0
  go_enter Try.func7, Try.ntmps7
  go_wp2
  rw [← HW0.out]
  obtain ⟨b1, hb1⟩ : ∃ b1, b1 = w.heap.size := ⟨_, rfl⟩
  obtain ⟨b2, hb2⟩ : ∃ b2, b2 = b1 + 1 := ⟨_, rfl⟩
  obtain ⟨b3, hb3⟩ : ∃ b3, b3 = b2 + 1 := ⟨_, rfl⟩
  rw [← hb1, ← hb2, ← hb3]
  have HBE := Aside0.mk (And.intro hb1 (And.intro hb2 hb3))
  have hk1 : w0.heap[b1]? = some (.cells #[.int .i64 v, .slice A n c] 24 (0, 0)) := by
    rw [HW0.out, hb1]; exact blk_alloc (blk_alloc (heap_alloc_new w _) _) _
  have hk2 : w0.heap[b2]? = some (.cells #[.int .i64 0, .slice none 0 0] 24 (0, 0)) := by
    rw [HW0.out, hb2, hb1]
    refine blk_alloc ?_ _
    have := heap_alloc_new (w.alloc (.cells #[.int .i64 v, .slice A n c] 24)) (.cells #[.int .i64 0, .slice none 0 0] 24)
    simpa using this
  have hk3 : w0.heap[b3]? = some (.cells #[.int .i64 v, .slice none 0 0] 24 (0, 0)) := by
    rw [HW0.out, hb3, hb2, hb1]
    have := heap_alloc_new ((w.alloc (.cells #[.int .i64 v, .slice A n c] 24)).alloc (.cells #[.int .i64 0, .slice none 0 0] 24)) (.cells #[.int .i64 v, .slice none 0 0] 24)
    simpa using this
  have HK1 := Aside0.mk hk1
  have HK2 := Aside0.mk hk2
  have HK3 := Aside0.mk hk3
  have HSZ := Aside0.mk (show w0.heap.size = b3 + 1 by rw [HW0.out, hb3, hb2, hb1]; simp)
  have HBW := Aside0.mk (show Below w.heap.size w w0 by rw [HW0.out]; exact below_alloc (below_alloc (below_alloc (Below.refl _ _) _) _) _)
  clear hk1 hk2 hk3 hx2 hb1 hb2 hb3
  go_loopg [4] (n + 1) (fun kq v4 wr => ∃ (i : Nat) (u : Value), v4 = .int .i64 (i : Int) ∧ i ≤ n ∧ Aside0 (n < kq + i) ∧ Aside0 (wr.heap[b3]? = some (.cells #[.int .i64 v, u] 24 (0, 0))) ∧ Aside0 (Kd.N kLend 43 wr (b3 + 1) (fun k => b3 + 1 ≤ k) u ((ls.take i).map some)) ∧ Aside0 (Below b3 w0 wr))
  case atStart => exact ⟨0, _, rfl, Nat.zero_le _, ⟨by omega⟩, HK3, ⟨Kd.N_nil _ _ _ _ _⟩, ⟨Below.refl _ _⟩⟩
  case round =>
    obtain ⟨i, u, rfl, hi, HK, HX, HO, HB⟩ := hrel
    have HBr := Aside0.mk (show Below w.heap.size w wr from HBW.out.trans (HB.out.mono (by have := HBE.out; omega)))
    have HSR := Aside0.mk (show b3 + 1 ≤ wr.heap.size by have := blk_lt HX.out; omega)
    have hk1 : wr.heap[b1]? = some (.cells #[.int .i64 v, .slice A n c] 24 (0, 0)) := (HB.out.block b1 (by have := HBE.out; omega)).trans HK1.out
    have HK1r := Aside0.mk hk1
    have hc1 : wr.cell? ⟨b1, 1, none⟩ = some (.slice A n c) := blk_cell hk1 1
    have hc3 : wr.cell? ⟨b3, 1, none⟩ = some u := blk_cell HX.out 1
    clear hk1
    cases gk with
    | zero => exact absurd HK.out (by omega)
    | succ k =>
      by_cases hlt : i < n
      · obtain ⟨ad, A0, c0, l, e, hg, hcl, hlc, hrow⟩ := at_rows (Kd.C_below HR.out HBr.out) i hlt
        cases e
        have HADL := Aside0.mk (show (ad.add i).block < w.heap.size by
          obtain ⟨ad', _, _, _, e', _, hcl0, _⟩ := at_rows HR.out i hlt
          cases e'
          exact World.block_lt_of_cell? w _ hcl0)
        obtain ⟨q, hq⟩ : ∃ q, q = l.length := ⟨_, rfl⟩
        rw [← hq] at hcl hlc hrow
        have HLC : Aside0 (∀ W, Below wr.heap.size wr W → Calls Try.prog 19 #[.slice A0 q c0] W fun e w' => ∃ g cap, e = .returned (.slice (some ⟨g, 0, none⟩) q cap) ∧ Kd.FK kLend w' (fun k => W.heap.size ≤ k) (some l) [.slice (some ⟨g, 0, none⟩) q cap] ∧ Below W.heap.size W w') := ⟨fun W hW => by
          refine (lendInts_calls A0 c0 q l W hq (Kd.C_below hrow hW) hlc (by have := HS.out l (List.mem_of_getElem? hg); omega)).mono ?_
          rintro e w' ⟨g, cap, rfl, h1, h2, h3⟩
          exact ⟨g, cap, rfl, FK_lend hq h2 (own_base h2 g rfl), h3⟩⟩
        have HT := Aside0.mk (show (ls.take (i + 1)).map some = (ls.take i).map some ++ [some l] by rw [List.take_add_one, hg]; simp)
        have HLN := Aside0.mk (show ((ls.take i).map some).length ≤ i by rw [List.length_map]; exact List.length_take_le _ _)
        have hd : decide (i < n) = true := decide_eq_true hlt
        have hd1 : decide ((i : Int) < (n : Int)) = true := decide_eq_true (by omega)
        have hg0 : (0 : Int) ≤ (i : Int) := by omega
        have hg1 : (i : Int) < (n : Int) := by omega
        clear hq hlc hrow hg
        go_wp2
        refine start_ (n := 12) (S := fun w' => w'.cell? ⟨b3, 1, none⟩ = some u ∧ w'.cell? ⟨b1, 1, none⟩ = some (.slice (some ad) n c) ∧ w'.cell? (ad.add i) = some (.slice A0 q c0)) (ds := [11]) #[false, false, false, false, false, false, false, false, false, false, false, false] (by kernel_rfl) rfl rfl ⟨hc3, hc1, hcl⟩ (fun hHeld => ?_)
        refine pure_ (i := 0) (N := (some 15)) (v := ?_) (a' := ?_) #[true, false, false, false, false, false, false, false, false, false, false, false] rfl rfl (by kernel_rfl) (fun _ _ _ h => h) (Or.inl ⟨by rfl, ?_⟩) ?_ ?_
        rotate_left
        · intro w'
          go_simp
          with_reducible rfl
        rotate_left
        · simp only [Act.put, List.setIfInBounds_toArray, List.set_cons_zero, List.set_cons_succ, i64_w, i32_w]
          rfl
        refine take_ (i := 1) (N := (some 16)) (v := ?_) (a' := ?_) #[true, true, false, false, false, false, false, false, false, false, false, false] rfl rfl (by kernel_rfl) (fun _ _ _ h => h) (Or.inl ⟨by rfl, ?_⟩) hHeld ?_ ?_
        rotate_left
        · rintro w' ⟨s0, s1, s2⟩
          go_simp
          with_reducible rfl
        rotate_left
        · simp only [Act.put, List.setIfInBounds_toArray, List.set_cons_zero, List.set_cons_succ, i64_w, i32_w]
          rfl
        refine pure_ (i := 2) (N := (some 17)) (v := ?_) (a' := ?_) #[true, true, true, false, false, false, false, false, false, false, false, false] rfl rfl (by kernel_rfl) (fun _ _ _ h => h) (Or.inl ⟨by rfl, ?_⟩) ?_ ?_
        rotate_left
        · intro w'
          go_simp
          with_reducible rfl
        rotate_left
        · simp only [Act.put, List.setIfInBounds_toArray, List.set_cons_zero, List.set_cons_succ, i64_w, i32_w]
          rfl
        refine take_ (i := 3) (N := (some 18)) (v := ?_) (a' := ?_) #[true, true, true, true, false, false, false, false, false, false, false, false] rfl rfl (by kernel_rfl) (fun _ _ _ h => h) (Or.inl ⟨by rfl, ?_⟩) hHeld ?_ ?_
        rotate_left
        · rintro w' ⟨s0, s1, s2⟩
          go_simp
          with_reducible rfl
        rotate_left
        · simp only [Act.put, List.setIfInBounds_toArray, List.set_cons_zero, List.set_cons_succ, i64_w, i32_w]
          rfl
        refine pure_ (i := 4) (N := (some 19)) (v := ?_) (a' := ?_) #[true, true, true, true, true, false, false, false, false, false, false, false] rfl rfl (by kernel_rfl) (fun _ _ _ h => h) (Or.inl ⟨by rfl, ?_⟩) ?_ ?_
        rotate_left
        · intro w'
          go_simp
          with_reducible rfl
        rotate_left
        · simp only [Act.put, List.setIfInBounds_toArray, List.set_cons_zero, List.set_cons_succ, i64_w, i32_w]
          rfl
        refine pure_ (i := 5) (N := (some 20)) (v := ?_) (a' := ?_) #[true, true, true, true, true, true, false, false, false, false, false, false] rfl rfl (by kernel_rfl) (fun _ _ _ h => h) (Or.inl ⟨by rfl, ?_⟩) ?_ ?_
        rotate_left
        · intro w'
          go_simp
          with_reducible rfl
        rotate_left
        · simp only [Act.put, List.setIfInBounds_toArray, List.set_cons_zero, List.set_cons_succ, i64_w, i32_w]
          rfl
        refine take_ (i := 6) (N := (some 21)) (v := ?_) (a' := ?_) #[true, true, true, true, true, true, true, false, false, false, false, false] rfl rfl (by kernel_rfl) (fun _ _ _ h => h) (Or.inl ⟨by rfl, ?_⟩) hHeld ?_ ?_
        rotate_left
        · rintro w' ⟨s0, s1, s2⟩
          go_simp
          with_reducible rfl
        rotate_left
        · simp only [Act.put, List.setIfInBounds_toArray, List.set_cons_zero, List.set_cons_succ, i64_w, i32_w]
          rfl
        refine one_ (i := 7) (N := (some 22)) #[true, true, true, true, true, true, true, true, false, false, false, false] rfl rfl (by kernel_rfl) (by decide) (fun K hK => ?_)
        refine goes_ Try.func19 (by kernel_rfl) rfl #[.slice A0 q c0] (by rfl) rfl rfl (by (try simp only [List.map_toArray, List.map_cons, List.map_nil]); first | done | rfl) ?_
        refine (HLC.out _ (below_drew (Below.refl _ _))).mono ?_
        rintro e w1 ⟨g, cap, rfl, hF, hb⟩
        refine ⟨_, rfl, ?_⟩
        have hc3' : w1.cell? ⟨b3, 1, none⟩ = some u := pw_cell_below hb hc3
        have hc1' : w1.cell? ⟨b1, 1, none⟩ = some (.slice (some ad) n c) := pw_cell_below hb hc1
        have hcl' : w1.cell? (ad.add i) = some (.slice A0 q c0) := pw_cell_below hb hcl
        have HF1 := Aside0.mk hF
        have HO1 := Aside0.mk (Kd.N_below (Kd.N_drew HO.out) hb)
        have HX1 := Aside0.mk (blk_below (blk_drew HX.out) hb)
        have HK11 := Aside0.mk (blk_below (blk_drew HK1r.out) hb)
        have HSR1 := Aside0.mk (show b3 + 1 ≤ w1.heap.size from Nat.le_trans HSR.out hb.size)
        have HB1 := Aside0.mk (HB.out.trans ((Below.mono (below_then (below_drew (Below.refl wr.heap.size wr)) (Nat.le_refl _) hb)) (by have := HSR.out; omega)))
        clear hF hb
        refine hK.out _ _ ⟨hc3', hc1', hcl'⟩ (fun hHeld => ?_)
        clear hK K
        refine norm_ (a' := ?_) ?_ ?_
        rotate_left
        · show Act.put _ (some 22) _ = _
          simp only [Act.put, List.setIfInBounds_toArray, List.set_cons_zero, List.set_cons_succ, i64_w, i32_w]
          rfl
        refine one_ (i := 8) (N := (some 23)) #[true, true, true, true, true, true, true, true, true, false, false, false] rfl rfl (by kernel_rfl) (by decide) (fun K hK => ?_)
        refine value_ (w1 := ?_) (v := ?_) (by rfl) rfl ?_ ?_
        rotate_left 2
        · go_simp
          constructor
          · rfl
          · rfl
        refine hK.out _ _ ⟨cell_keep0 hc3', cell_keep0 hc1', cell_keep0 hcl'⟩ (fun hHeld => ?_)
        clear hK K
        refine norm_ (a' := ?_) ?_ ?_
        rotate_left
        · show Act.put _ (some 23) _ = _
          simp only [Act.put, List.setIfInBounds_toArray, List.set_cons_zero, List.set_cons_succ, i64_w, i32_w]
          rfl
        refine one_ (i := 9) (N := (some 24)) #[true, true, true, true, true, true, true, true, true, true, false, false] rfl rfl (by kernel_rfl) (by decide) (fun K hK => ?_)
        refine Kd.N_append_step kLend (w0 := w1) (b3 + 1) (by rfl) (.tmp 16) (.tmp 23) 22 43 (.slice none 0 0) 24 rfl Try.underlying22 info43 rfl Nat.one_pos (by omega) u ((ls.take i).map some) (some l) [.slice (some ⟨g, 0, none⟩) q cap] (fun k => b3 + 1 ≤ k) (fun k => wr.heap.size ≤ k) rfl rfl HF1.out (fun k hk => ⟨Nat.le_trans HSR.out hk, fun e => by have := Kd.N_lt HO.out k e.symm; omega⟩) (fun k hk => Nat.le_trans HSR1.out hk) HO1.out (Below.refl _ _) HSR1.out (by have := HLN.out; omega) ?_
        intro v2 w2 hN hb2 hg2 hat2
        obtain ⟨X2, d2, e2⟩ := Kd.N_slice hN
        obtain ⟨m2, hm2⟩ : ∃ m2, m2 = ((ls.take i).map some ++ [some l]).length := ⟨_, rfl⟩
        rw [← hm2] at e2
        subst e2
        clear hm2
        have hX2 := blk_grown HX1.out hg2 (Kd.N_ne HO1.out HX1.out (by decide))
        have hK2 := blk_grown HK11.out hg2 (Kd.N_ne HO1.out HK11.out (by decide))
        have hc3'' : w2.cell? ⟨b3, 1, none⟩ = some u := blk_cell hX2 1
        have hc1'' : w2.cell? ⟨b1, 1, none⟩ = some (.slice (some ad) n c) := blk_cell hK2 1
        have hcl'' : w2.cell? (ad.add i) = some (.slice A0 q c0) := (hb2.cell (p := ad.add i) (by have := HADL.out; have := HBE.out; omega)).trans hcl'
        have hf3 := blk_frozen hX2 1
        have HX2 := Aside0.mk hX2
        have HN2 := Aside0.mk hN
        have HB2 := Aside0.mk (HB1.out.trans (hb2.mono (Nat.le_succ _)))
        clear hX2 hK2 hN hb2 hg2 hat2
        refine hK.out _ _ ⟨hc3'', hc1'', hcl''⟩ (fun hHeld => ?_)
        clear hK K
        refine norm_ (a' := ?_) ?_ ?_
        rotate_left
        · show Act.put _ (some 24) _ = _
          simp only [Act.put, List.setIfInBounds_toArray, List.set_cons_zero, List.set_cons_succ, i64_w, i32_w]
          rfl
        refine pure_ (i := 10) (N := (some 25)) (v := ?_) (a' := ?_) #[true, true, true, true, true, true, true, true, true, true, true, false] rfl rfl (by kernel_rfl) (fun _ _ _ h => h) (Or.inl ⟨by rfl, ?_⟩) ?_ ?_
        rotate_left
        · intro w'
          go_simp
          with_reducible rfl
        rotate_left
        · simp only [Act.put, List.setIfInBounds_toArray, List.set_cons_zero, List.set_cons_succ, i64_w, i32_w]
          rfl
        refine last_ (i := 11) (N := none) #[true, true, true, true, true, true, true, true, true, true, true, true] rfl rfl (by kernel_rfl) (by decide) (fun K hK => ?_)
        refine skip_ (w1 := ?_) (by rfl) rfl ?_ ?_
        rotate_left
        · go_simp
          rfl
        refine hK.out _ _ ?_
        clear hK K
        refine done_ (by kernel_rfl) ?_
        try go_wp2
        go_roundg k
        case measure => omega
        case rel => exact ⟨i + 1, _, by go_num, by omega, ⟨by have := HK.out; omega⟩, ⟨blk_put HX2.out 1 _ rfl⟩, ⟨by rw [HT.out]; exact Kd.N_far HN2.out (p := ⟨b3, 1, none⟩) (fun k hk => by show k ≠ b3; omega) _⟩, ⟨HB2.out.setCell (Nat.le_refl _) _⟩⟩
      · obtain rfl : i = n := by omega
        have hd : decide (i < i) = false := decide_eq_false (by omega)
        have hd1 : decide ((i : Int) < (i : Int)) = false := decide_eq_false (by omega)
        have HK2r := Aside0.mk (show wr.heap[b2]? = some (.cells #[.int .i64 0, .slice none 0 0] 24 (0, 0)) from (HB.out.block b2 (by have := HBE.out; omega)).trans HK2.out)
        have hq := HO.out
        rw [show ls.take i = ls by rw [HN.out, List.take_length]] at hq
        clear HO
        have HO := Aside0.mk hq
        have HLN := Aside0.mk (show (ls.map some).length = i by rw [List.length_map, HN.out])
        clear hq HK
        go_wp2
        refine start_ (n := 11) (S := fun w' => w'.cell? ⟨b3, 1, none⟩ = some u ∧ w'.cell? ⟨b1, 1, none⟩ = some (.slice A i c)) (ds := [10]) #[false, false, false, false, false, false, false, false, false, false, false] (by kernel_rfl) rfl rfl ⟨hc3, hc1⟩ (fun hHeld => ?_)
        refine pure_ (i := 0) (N := (some 26)) (v := ?_) (a' := ?_) #[true, false, false, false, false, false, false, false, false, false, false] rfl rfl (by kernel_rfl) (fun _ _ _ h => h) (Or.inl ⟨by rfl, ?_⟩) ?_ ?_
        rotate_left
        · intro w'
          go_simp
          with_reducible rfl
        rotate_left
        · simp only [Act.put, List.setIfInBounds_toArray, List.set_cons_zero, List.set_cons_succ, i64_w, i32_w]
          rfl
        refine take_ (i := 1) (N := (some 27)) (v := ?_) (a' := ?_) #[true, true, false, false, false, false, false, false, false, false, false] rfl rfl (by kernel_rfl) (fun _ _ _ h => h) (Or.inl ⟨by rfl, ?_⟩) hHeld ?_ ?_
        rotate_left
        · rintro w' ⟨s0, s1⟩
          go_simp
          with_reducible rfl
        rotate_left
        · simp only [Act.put, List.setIfInBounds_toArray, List.set_cons_zero, List.set_cons_succ, i64_w, i32_w]
          rfl
        refine pure_ (i := 5) (N := (some 31)) (v := ?_) (a' := ?_) #[true, true, false, false, false, true, false, false, false, false, false] rfl rfl (by kernel_rfl) (fun _ _ _ h => h) (Or.inl ⟨by rfl, ?_⟩) ?_ ?_
        rotate_left
        · intro w'
          go_simp
          with_reducible rfl
        rotate_left
        · simp only [Act.put, List.setIfInBounds_toArray, List.set_cons_zero, List.set_cons_succ, i64_w, i32_w]
          rfl
        refine take_ (i := 6) (N := (some 32)) (v := ?_) (a' := ?_) #[true, true, false, false, false, true, true, false, false, false, false] rfl rfl (by kernel_rfl) (fun _ _ _ h => h) (Or.inl ⟨by rfl, ?_⟩) hHeld ?_ ?_
        rotate_left
        · rintro w' ⟨s0, s1⟩
          go_simp
          with_reducible rfl
        rotate_left
        · simp only [Act.put, List.setIfInBounds_toArray, List.set_cons_zero, List.set_cons_succ, i64_w, i32_w]
          rfl
        refine pure_ (i := 7) (N := (some 33)) (v := ?_) (a' := ?_) #[true, true, false, false, false, true, true, true, false, false, false] rfl rfl (by kernel_rfl) (fun _ _ _ h => h) (Or.inl ⟨by rfl, ?_⟩) ?_ ?_
        rotate_left
        · intro w'
          go_simp
          with_reducible rfl
        rotate_left
        · simp only [Act.put, List.setIfInBounds_toArray, List.set_cons_zero, List.set_cons_succ, i64_w, i32_w]
          rfl
        refine one_ (i := 2) (N := (some 28)) #[true, true, true, false, false, true, true, true, false, false, false] rfl rfl (by kernel_rfl) (by decide) (fun K hK => ?_)
        refine value_ (w1 := ?_) (v := ?_) (by rfl) rfl ?_ ?_
        rotate_left 2
        · go_simp
          constructor
          · rfl
          · rfl
        refine hK.out _ _ ⟨cell_keep0 hc3, cell_keep0 hc1⟩ (fun hHeld => ?_)
        clear hK K
        refine norm_ (a' := ?_) ?_ ?_
        rotate_left
        · show Act.put _ (some 28) _ = _
          simp only [Act.put, List.setIfInBounds_toArray, List.set_cons_zero, List.set_cons_succ, i64_w, i32_w]
          rfl
        refine one_ (i := 3) (N := (some 29)) #[true, true, true, true, false, true, true, true, false, false, false] rfl rfl (by kernel_rfl) (by decide) (fun K hK => ?_)
        refine value_ (w1 := ?_) (v := ?_) (by rfl) rfl ?_ ?_
        rotate_left 2
        · go_simp
          constructor
          · rfl
          · rfl
        refine hK.out _ _ ⟨cell_keep0 (cell_keep0 hc3), cell_keep0 (cell_keep0 hc1)⟩ (fun hHeld => ?_)
        clear hK K
        refine norm_ (a' := ?_) ?_ ?_
        rotate_left
        · show Act.put _ (some 29) _ = _
          simp only [Act.put, List.setIfInBounds_toArray, List.set_cons_zero, List.set_cons_succ, i64_w, i32_w]
          rfl
        refine one_ (i := 4) (N := (some 30)) #[true, true, true, true, true, true, true, true, false, false, false] rfl rfl (by kernel_rfl) (by decide) (fun K hK => ?_)
        refine Kd.N_append_step kLend (w0 := wr.drew.alloc (.cells #[.int .i64 (-77)] 3)) (b3 + 1) (by rfl) (.tmp 27) (.tmp 29) 22 43 (.slice none 0 0) 24 rfl Try.underlying22 info43 rfl Nat.one_pos (by omega) u (ls.map some) none [.slice (some ⟨wr.heap.size, 0, none⟩) 1 1] (fun k => b3 + 1 ≤ k) (fun k => False) rfl (by show Value.slice (some ⟨wr.heap.size + 1, 0, none⟩) 1 1 = _; simp) (FK_last _ _ _ _) (fun k hk => hk.elim) (fun k hk => Nat.le_trans HSR.out (Nat.le_trans (below_alloc (below_drew (Below.refl _ _)) _).size hk)) (Kd.N_alloc (Kd.N_drew HO.out) _) (Below.refl _ _) (Nat.le_trans HSR.out (below_alloc (below_drew (Below.refl _ _)) _).size) (by have := HLN.out; omega) ?_
        intro v2 w2 hN hb2 hg2 hat2
        obtain ⟨g, cap, e2, hgb, hgl, _⟩ := Kd.N_form hN (by simp)
        have hlen : (ls.map some ++ [none]).length = i + 1 := by rw [List.length_append, List.length_map, HN.out]; rfl
        rw [hlen] at e2
        subst e2
        have hX2 := blk_grown (blk_alloc (blk_drew HX.out) _) hg2 (Kd.N_ne HO.out HX.out (by decide))
        have hK2 := blk_grown (blk_alloc (blk_drew HK1r.out) _) hg2 (Kd.N_ne HO.out HK1r.out (by decide))
        have hK22 := blk_grown (blk_alloc (blk_drew HK2r.out) _) hg2 (Kd.N_ne HO.out HK2r.out (by decide))
        have hcap := (Kd.N_reads' hN).2.1
        have hcap2 : i ≤ cap := by omega
        have hc3'' : w2.cell? ⟨b3, 1, none⟩ = some u := blk_cell hX2 1
        have hc1'' : w2.cell? ⟨b1, 1, none⟩ = some (.slice A i c) := blk_cell hK2 1
        have hf3 := blk_frozen hX2 1
        have HX2 := Aside0.mk hX2
        have HK22 := Aside0.mk hK22
        have HN2 := Aside0.mk hN
        have HB2 := Aside0.mk (HB.out.trans ((below_alloc (below_drew (Below.refl wr.heap.size wr)) _).mono (by have := HSR.out; omega) |>.trans (hb2.mono (Nat.le_succ _))))
        clear hX2 hK2 hK22 hN hb2 hg2 hat2 hlen hgl
        refine hK.out _ _ ⟨hc3'', hc1''⟩ (fun hHeld => ?_)
        clear hK K
        refine norm_ (a' := ?_) ?_ ?_
        rotate_left
        · show Act.put _ (some 30) _ = _
          simp only [Act.put, List.setIfInBounds_toArray, List.set_cons_zero, List.set_cons_succ, i64_w, i32_w]
          rfl
        refine pure_ (i := 8) (N := (some 34)) (v := ?_) (a' := ?_) #[true, true, true, true, true, true, true, true, true, false, false] rfl rfl (by kernel_rfl) (fun _ _ _ h => h) (Or.inl ⟨by rfl, ?_⟩) ?_ ?_
        rotate_left
        · intro w'
          go_simp
          with_reducible rfl
        rotate_left
        · simp only [Act.put, List.setIfInBounds_toArray, List.set_cons_zero, List.set_cons_succ, i64_w, i32_w]
          rfl
        refine pure_ (i := 9) (N := (some 35)) (v := ?_) (a' := ?_) #[true, true, true, true, true, true, true, true, true, true, false] rfl rfl (by kernel_rfl) (fun _ _ _ h => h) (Or.inl ⟨by rfl, ?_⟩) ?_ ?_
        rotate_left
        · intro w'
          go_simp
          with_reducible rfl
        rotate_left
        · simp only [Act.put, List.setIfInBounds_toArray, List.set_cons_zero, List.set_cons_succ, i64_w, i32_w]
          rfl
        refine last_ (i := 10) (N := none) #[true, true, true, true, true, true, true, true, true, true, true] rfl rfl (by kernel_rfl) (by decide) (fun K hK => ?_)
        refine skip_ (w1 := ?_) (by rfl) rfl ?_ ?_
        rotate_left
        · go_simp
          rfl
        refine hK.out _ _ ?_
        clear hK K
        refine done_ (by kernel_rfl) ?_
        obtain ⟨w3, hw3⟩ : ∃ w3, w3 = w2.setCell ⟨b3, 1, none⟩ (.slice (some ⟨g, 0, none⟩) i cap) := ⟨_, rfl⟩
        have hk3' : w3.heap[b3]? = some (.cells #[.int .i64 v, .slice (some ⟨g, 0, none⟩) i cap] 24 (0, 0)) := by rw [hw3]; exact blk_put HX2.out 1 _ rfl
        have hk2' : w3.heap[b2]? = some (.cells #[.int .i64 0, .slice none 0 0] 24 (0, 0)) := by rw [hw3]; exact (Below.heap_setCell w2 ⟨b3, 1, none⟩ _ b2 (by have := HBE.out; show b2 ≠ b3; omega)).trans HK22.out
        have HN3 := Aside0.mk (show Kd.N kLend 43 w3 (b3 + 1) (fun k => b3 + 1 ≤ k) (.slice (some ⟨g, 0, none⟩) (i + 1) cap) (ls.map some ++ [none]) by rw [hw3]; exact Kd.N_far HN2.out (p := ⟨b3, 1, none⟩) (fun k hk => by show k ≠ b3; omega) _)
        have HB3 := Aside0.mk (show Below b3 w0 w3 by rw [hw3]; exact HB2.out.setCell (Nat.le_refl _) _)
        rw [← hw3]
        have hy0 : w3.cell? ⟨b3, 0, none⟩ = some (.int .i64 v) := blk_cell hk3' 0
        have hy1 : w3.cell? ⟨b3, 1, none⟩ = some (.slice (some ⟨g, 0, none⟩) i cap) := blk_cell hk3' 1
        have hz0 : w3.cell? ⟨b2, 0, none⟩ = some (.int .i64 0) := blk_cell hk2' 0
        have hz1 : w3.cell? ⟨b2, 1, none⟩ = some (.slice none 0 0) := blk_cell hk2' 1
        have hf0 := blk_frozen hk2' 0
        have hf1 := blk_frozen hk2' 1
        have HK23 := Aside0.mk hk2'
        clear hw3 hk3' hk2' hc3 hc1 hc3'' hc1'' hf3 hHeld
        go_wp2
        refine bodyPost_ret (results_cell_row rfl _ _ b2 24 #[.int .i64 v, .slice (some ⟨g, 0, none⟩) i cap] (0, 0) _ rfl (blk_put (blk_put HK23.out 0 _ rfl) 1 _ rfl) Try.underlying24 rfl (by kernel_rfl)) rfl ?_
        have hC := (Kd.N_reads' (Kd.N_far (Kd.N_far HN3.out (p := ⟨b2, 0, none⟩) (fun k hk => by have := HBE.out; show k ≠ b2; omega) (.int .i64 v)) (p := ⟨b2, 1, none⟩) (fun k hk => by have := HBE.out; show k ≠ b2; omega) (.slice (some ⟨g, 0, none⟩) i cap))).2.2
        have hlen2 : (ls.map some ++ [none]).length = i + 1 := by rw [List.length_append, List.length_map, HN.out]; rfl
        rw [hlen2] at hC
        refine ⟨g, cap, rfl, hcap, hC, ?_⟩
        have h4 := (HB3.out.mono (show b1 ≤ b3 by have := HBE.out; omega)).setCell (p := ⟨b2, 0, none⟩) (show b1 ≤ b2 by have := HBE.out; omega) (.int .i64 v)
        have h5 := h4.setCell (p := ⟨b2, 1, none⟩) (show b1 ≤ b2 by have := HBE.out; omega) (.slice (some ⟨g, 0, none⟩) i cap)
        rw [HBE.out.1] at h5
        exact HBW.out.trans h5

end Go.Proofs.Ythhmjfjkbmmcaaa
-- written by a program of this session's own (gprint.py), after the kit's print
namespace Go.Proofs.Ythhmjfjkbmmcaaa.GCO
open Go.RowKit Go.Proofs.YthhmjfjkbmmcaaaW.PrintWords Go.Proofs.YthhmjfjkbmmcaaaW.PrintLast Go.Proofs.YthhmjfjkbmmcaaaW.PrintMore
attribute [local go_sem] max2_int min2_int max_two min_two max_three min_three max_four min_four   -- for this text's walks alone
set_option linter.unusedVariables false
set_option linter.unusedSimpArgs false

/-! ### trestlebook_SameClauses: function 27 -/
def trestlebook_SameClauses.l0 : Nat → List (List Int) → List (List Int) → Int → Option (Bool)
  | 0, _, _, _ => none
  | k + 1, x0, x1, x5 => if x5 < (x0.length : Int) then (if 0 ≤ x5 then (if x5 < (x1.length : Int) then ((trestlebook_SameInts.f k (rd_L1 x0 x5) (rd_L1 x1 x5)).bind fun t158 => (if t158 = true then (trestlebook_SameClauses.l0 k x0 x1 (wrap64 (x5 + 1))) else (some false))) else (none)) else (none)) else (some true)
def trestlebook_SameClauses.f (k : Nat) (l0 : List (List Int)) (l1 : List (List Int)) : Option (Bool) := if (l0.length : Int) = (l1.length : Int) then (trestlebook_SameClauses.l0 k l0 l1 0) else (some false)
set_option maxHeartbeats 8000000 in
set_option maxRecDepth 100000 in
theorem trestlebook_SameClauses.calls (k : Nat) (A0 : Option Addr) (c0 : Nat) (l0 : List (List Int)) (A1 : Option Addr) (c1 : Nat) (l1 : List (List Int)) (r : Bool) (w : World) (hr0 : Kd.C (Kd.slice 3 (Kd.int .i64)) w A0 l0.length l0) (hc0 : l0.length ≤ c0) (hr1 : Kd.C (Kd.slice 3 (Kd.int .i64)) w A1 l1.length l1) (hc1 : l1.length ≤ c1) (h : trestlebook_SameClauses.f k l0 l1 = some r) :
    Calls Try.prog 27 #[.slice A0 l0.length c0, .slice A1 l1.length c1] w fun e w' => e = .returned (.bool r) ∧ Drawn0 w w' := by
  have HR0 := Aside0.mk hr0
  have HC0 := Aside0.mk hc0
  clear hr0 hc0
  have HR1 := Aside0.mk hr1
  have HC1 := Aside0.mk hc1
  clear hr1 hc1
  have H : (if (l0.length : Int) = (l1.length : Int) then (trestlebook_SameClauses.l0 k l0 l1 0) else (some false)) = some r := h
  clear h
  by_cases c3 : (l0.length : Int) = (l1.length : Int)
  · rw [if_pos c3] at H
    have c3b0 : ((l0.length : Int) == (l1.length : Int)) = true := beq_iff_eq.mpr c3
    have c3b1 : ((l0.length : Int) != (l1.length : Int)) = false := bne_eq_false_iff_eq.mpr c3
    have c3b2 : (l0.length == l1.length) = true := by first | simpa using c3 | (simp at c3 ⊢; omega)
    clear c3
    have H' := Aside0.mk H
    clear H
    go_enter Try.func27, Try.ntmps27
    go_wp2
    repeat (go_quiet (fail); try go_wp2)
    go_loopg [5] k (fun kq v5 w' => ∃ (x5_1 : Int), v5 = .int .i64 x5_1 ∧ Aside0 (trestlebook_SameClauses.l0 kq l0 l1 x5_1 = some r) ∧ Aside0 (kq ≤ k) ∧ Drawn0 w w')
    case atStart => exact ⟨(0), (by first | rfl | (simp; done) | (simp [*]; done)), H', ⟨Nat.le_refl _⟩, by repeat (first | exact Drawn0.refl _ | apply Drawn0.step)⟩
    case round =>
      clear H'
      try clear c1
      try clear c2
      try clear p2
      try clear c3
      try clear c3b0
      try clear c3b1
      try clear c3b2
      obtain ⟨x5_1, rfl, HA, HK1, ⟨m1, rfl⟩⟩ := hrel
      cases gk with
      | zero => exact absurd HA.out (by simp [trestlebook_SameClauses.l0])
      | succ k1 =>
        have H := HA.out
        clear HA
        simp only [trestlebook_SameClauses.l0] at H
        by_cases c4 : x5_1 < (l0.length : Int)
        · rw [if_pos c4] at H
          have c4b0 : decide (x5_1 < (l0.length : Int)) = true := decide_eq_true c4
          clear c4
          by_cases c5 : 0 ≤ x5_1
          · rw [if_pos c5] at H
            have c5b0 : decide (0 ≤ x5_1) = true := decide_eq_true c5
            clear c5
            by_cases c6 : x5_1 < (l1.length : Int)
            · rw [if_pos c6] at H
              have c6b0 : decide (x5_1 < (l1.length : Int)) = true := decide_eq_true c6
              clear c6
              replace H := Option.bind_eq_some_iff.mp H
              obtain ⟨t158, A70, H⟩ := H
              replace H : (if t158 = true then (trestlebook_SameClauses.l0 k1 l0 l1 (wrap64 (x5_1 + 1))) else (some false)) = some r := H
              have A7 := Aside0.mk A70
              clear A70
              by_cases c8 : t158 = true
              · subst c8
                have H1 : (trestlebook_SameClauses.l0 k1 l0 l1 (wrap64 (x5_1 + 1))) = some r := by rw [if_pos rfl] at H; exact H
                clear H
                have H := H1
                clear H1
                have H' := Aside0.mk H
                clear H
                have p156 : 0 ≤ (x5_1 : Int) := of_decide_eq_true (by first | (with_reducible assumption) | assumption)
                have q156 : x5_1 < (l0.length : Int) := of_decide_eq_true (by first | (with_reducible assumption) | assumption)
                obtain ⟨ad156, A156_0, c156_0, e156, hx156_0, hl156_0, hi156_0⟩ := at_L1 HR0.out x5_1 p156 q156
                cases e156
                have HR156_0 := Aside0.mk hi156_0
                have HC156_0 := Aside0.mk hl156_0
                clear hi156_0 hl156_0
                replace p156 := eq_true p156
                replace q156 := eq_true q156
                have p157 : 0 ≤ (x5_1 : Int) := of_decide_eq_true (by first | (with_reducible assumption) | assumption)
                have q157 : x5_1 < (l1.length : Int) := of_decide_eq_true (by first | (with_reducible assumption) | assumption)
                obtain ⟨ad157, A157_0, c157_0, e157, hx157_0, hl157_0, hi157_0⟩ := at_L1 HR1.out x5_1 p157 q157
                cases e157
                have HR157_0 := Aside0.mk hi157_0
                have HC157_0 := Aside0.mk hl157_0
                clear hi157_0 hl157_0
                replace p157 := eq_true p157
                replace q157 := eq_true q157
                go_wp2_with (first | (go_at_call 50; (with_reducible refine (trestlebook_SameInts.calls k1 _ _ (rd_L1 l0 x5_1) _ _ (rd_L1 l1 x5_1) true _ ?side1 ?side2 ?side3 ?side4 A7.out).mono ?_); (case side1 => repeat (first | exact HR156_0.out | (with_reducible refine Kd.C_alloc ?_ _) | (with_reducible refine Kd.C_drewN ?_ _) | (with_reducible refine Kd.C_drew ?_))); (case side2 => exact HC156_0.out); (case side3 => repeat (first | exact HR157_0.out | (with_reducible refine Kd.C_alloc ?_ _) | (with_reducible refine Kd.C_drewN ?_ _) | (with_reducible refine Kd.C_drew ?_))); (case side4 => exact HC157_0.out); rintro e w' ⟨rfl, ⟨nd, rfl⟩⟩; (try first | exact ⟨rfl, _, World.drewN_drewN _ _ _⟩ | exact ⟨rfl, _, Eq.trans (World.drewN_drewN _ _ _) (congrArg (World.drewN _) (Nat.add_assoc _ _ _))⟩)))
                repeat (go_quiet (first | (go_at_call 50; (with_reducible refine (trestlebook_SameInts.calls k1 _ _ (rd_L1 l0 x5_1) _ _ (rd_L1 l1 x5_1) true _ ?side1 ?side2 ?side3 ?side4 A7.out).mono ?_); (case side1 => repeat (first | exact HR156_0.out | (with_reducible refine Kd.C_alloc ?_ _) | (with_reducible refine Kd.C_drewN ?_ _) | (with_reducible refine Kd.C_drew ?_))); (case side2 => exact HC156_0.out); (case side3 => repeat (first | exact HR157_0.out | (with_reducible refine Kd.C_alloc ?_ _) | (with_reducible refine Kd.C_drewN ?_ _) | (with_reducible refine Kd.C_drew ?_))); (case side4 => exact HC157_0.out); rintro e w' ⟨rfl, ⟨nd, rfl⟩⟩; (try first | exact ⟨rfl, _, World.drewN_drewN _ _ _⟩ | exact ⟨rfl, _, Eq.trans (World.drewN_drewN _ _ _) (congrArg (World.drewN _) (Nat.add_assoc _ _ _))⟩))); try go_wp2_with (first | (go_at_call 50; (with_reducible refine (trestlebook_SameInts.calls k1 _ _ (rd_L1 l0 x5_1) _ _ (rd_L1 l1 x5_1) true _ ?side1 ?side2 ?side3 ?side4 A7.out).mono ?_); (case side1 => repeat (first | exact HR156_0.out | (with_reducible refine Kd.C_alloc ?_ _) | (with_reducible refine Kd.C_drewN ?_ _) | (with_reducible refine Kd.C_drew ?_))); (case side2 => exact HC156_0.out); (case side3 => repeat (first | exact HR157_0.out | (with_reducible refine Kd.C_alloc ?_ _) | (with_reducible refine Kd.C_drewN ?_ _) | (with_reducible refine Kd.C_drew ?_))); (case side4 => exact HC157_0.out); rintro e w' ⟨rfl, ⟨nd, rfl⟩⟩; (try first | exact ⟨rfl, _, World.drewN_drewN _ _ _⟩ | exact ⟨rfl, _, Eq.trans (World.drewN_drewN _ _ _) (congrArg (World.drewN _) (Nat.add_assoc _ _ _))⟩))))
                go_roundg k1
                case measure => have := HK1.out; omega
                case rel => exact ⟨(wrap64 (x5_1 + 1)), (by first | rfl | (simp; done) | (simp [*]; done)), H', ⟨by have := HK1.out; omega⟩, by repeat (first | exact Drawn0.refl _ | apply Drawn0.step)⟩
              · replace c8 := Bool.eq_false_iff.mpr c8
                subst c8
                have H1 : (some false) = some r := by rw [if_neg (show ¬ (false = true) by decide)] at H; exact H
                clear H
                have H := H1
                clear H1
                obtain rfl := Option.some.inj H
                have p156 : 0 ≤ (x5_1 : Int) := of_decide_eq_true (by first | (with_reducible assumption) | assumption)
                have q156 : x5_1 < (l0.length : Int) := of_decide_eq_true (by first | (with_reducible assumption) | assumption)
                obtain ⟨ad156, A156_0, c156_0, e156, hx156_0, hl156_0, hi156_0⟩ := at_L1 HR0.out x5_1 p156 q156
                cases e156
                have HR156_0 := Aside0.mk hi156_0
                have HC156_0 := Aside0.mk hl156_0
                clear hi156_0 hl156_0
                replace p156 := eq_true p156
                replace q156 := eq_true q156
                have p157 : 0 ≤ (x5_1 : Int) := of_decide_eq_true (by first | (with_reducible assumption) | assumption)
                have q157 : x5_1 < (l1.length : Int) := of_decide_eq_true (by first | (with_reducible assumption) | assumption)
                obtain ⟨ad157, A157_0, c157_0, e157, hx157_0, hl157_0, hi157_0⟩ := at_L1 HR1.out x5_1 p157 q157
                cases e157
                have HR157_0 := Aside0.mk hi157_0
                have HC157_0 := Aside0.mk hl157_0
                clear hi157_0 hl157_0
                replace p157 := eq_true p157
                replace q157 := eq_true q157
                go_wp2_with (first | (go_at_call 50; (with_reducible refine (trestlebook_SameInts.calls k1 _ _ (rd_L1 l0 x5_1) _ _ (rd_L1 l1 x5_1) false _ ?side1 ?side2 ?side3 ?side4 A7.out).mono ?_); (case side1 => repeat (first | exact HR156_0.out | (with_reducible refine Kd.C_alloc ?_ _) | (with_reducible refine Kd.C_drewN ?_ _) | (with_reducible refine Kd.C_drew ?_))); (case side2 => exact HC156_0.out); (case side3 => repeat (first | exact HR157_0.out | (with_reducible refine Kd.C_alloc ?_ _) | (with_reducible refine Kd.C_drewN ?_ _) | (with_reducible refine Kd.C_drew ?_))); (case side4 => exact HC157_0.out); rintro e w' ⟨rfl, ⟨nd, rfl⟩⟩; (try first | exact ⟨rfl, _, World.drewN_drewN _ _ _⟩ | exact ⟨rfl, _, Eq.trans (World.drewN_drewN _ _ _) (congrArg (World.drewN _) (Nat.add_assoc _ _ _))⟩)))
                repeat (go_quiet (first | (go_at_call 50; (with_reducible refine (trestlebook_SameInts.calls k1 _ _ (rd_L1 l0 x5_1) _ _ (rd_L1 l1 x5_1) false _ ?side1 ?side2 ?side3 ?side4 A7.out).mono ?_); (case side1 => repeat (first | exact HR156_0.out | (with_reducible refine Kd.C_alloc ?_ _) | (with_reducible refine Kd.C_drewN ?_ _) | (with_reducible refine Kd.C_drew ?_))); (case side2 => exact HC156_0.out); (case side3 => repeat (first | exact HR157_0.out | (with_reducible refine Kd.C_alloc ?_ _) | (with_reducible refine Kd.C_drewN ?_ _) | (with_reducible refine Kd.C_drew ?_))); (case side4 => exact HC157_0.out); rintro e w' ⟨rfl, ⟨nd, rfl⟩⟩; (try first | exact ⟨rfl, _, World.drewN_drewN _ _ _⟩ | exact ⟨rfl, _, Eq.trans (World.drewN_drewN _ _ _) (congrArg (World.drewN _) (Nat.add_assoc _ _ _))⟩))); try go_wp2_with (first | (go_at_call 50; (with_reducible refine (trestlebook_SameInts.calls k1 _ _ (rd_L1 l0 x5_1) _ _ (rd_L1 l1 x5_1) false _ ?side1 ?side2 ?side3 ?side4 A7.out).mono ?_); (case side1 => repeat (first | exact HR156_0.out | (with_reducible refine Kd.C_alloc ?_ _) | (with_reducible refine Kd.C_drewN ?_ _) | (with_reducible refine Kd.C_drew ?_))); (case side2 => exact HC156_0.out); (case side3 => repeat (first | exact HR157_0.out | (with_reducible refine Kd.C_alloc ?_ _) | (with_reducible refine Kd.C_drewN ?_ _) | (with_reducible refine Kd.C_drew ?_))); (case side4 => exact HC157_0.out); rintro e w' ⟨rfl, ⟨nd, rfl⟩⟩; (try first | exact ⟨rfl, _, World.drewN_drewN _ _ _⟩ | exact ⟨rfl, _, Eq.trans (World.drewN_drewN _ _ _) (congrArg (World.drewN _) (Nat.add_assoc _ _ _))⟩))))
                go_ret
                exact ⟨by first | rfl | (simp; done) | (simp [*]; done), by repeat (first | exact Drawn0.refl _ | apply Drawn0.step)⟩
            · rw [if_neg c6] at H
              exact absurd H (by simp)
          · rw [if_neg c5] at H
            exact absurd H (by simp)
        · rw [if_neg c4] at H
          have c4b0 : decide (x5_1 < (l0.length : Int)) = false := decide_eq_false c4
          clear c4
          obtain rfl := Option.some.inj H
          go_wp2
          repeat (go_quiet (fail); try go_wp2)
          go_ret
          exact ⟨by first | rfl | (simp; done) | (simp [*]; done), by repeat (first | exact Drawn0.refl _ | apply Drawn0.step)⟩
  · rw [if_neg c3] at H
    have c3b0 : ((l0.length : Int) == (l1.length : Int)) = false := beq_eq_false_iff_ne.mpr c3
    have c3b1 : ((l0.length : Int) != (l1.length : Int)) = true := bne_iff_ne.mpr c3
    have c3b2 : (l0.length == l1.length) = false := by first | simpa using c3 | (simp at c3 ⊢; omega)
    obtain rfl := Option.some.inj H
    go_enter Try.func27, Try.ntmps27
    go_wp2
    repeat (go_quiet (fail); try go_wp2)
    go_ret
    exact ⟨by first | rfl | (simp; done) | (simp [*]; done), by repeat (first | exact Drawn0.refl _ | apply Drawn0.step)⟩

end Go.Proofs.Ythhmjfjkbmmcaaa.GCO
-- written by a program of this session's own (gprint.py), after the kit's print
namespace Go.Proofs.Ythhmjfjkbmmcaaa.GCO
open Go.RowKit Go.Proofs.YthhmjfjkbmmcaaaW.PrintWords Go.Proofs.YthhmjfjkbmmcaaaW.PrintLast Go.Proofs.YthhmjfjkbmmcaaaW.PrintMore
attribute [local go_sem] max2_int min2_int max_two min_two max_three min_three max_four min_four   -- for this text's walks alone
set_option linter.unusedVariables false
set_option linter.unusedSimpArgs false

/-! ### trestlebook_SameCnf: function 10 -/
def trestlebook_SameCnf.f (k : Nat) (a0_0 : Int) (l0_1 : List (List Int)) (a1_0 : Int) (l1_1 : List (List Int)) : Option (Bool) := if a0_0 = a1_0 then ((trestlebook_SameClauses.f k l0_1 l1_1).bind fun t210 => (some t210)) else (some false)
set_option maxHeartbeats 8000000 in
set_option maxRecDepth 100000 in
theorem trestlebook_SameCnf.calls (k : Nat) (a0_0 : Int) (A0_1 : Option Addr) (c0_1 : Nat) (l0_1 : List (List Int)) (a1_0 : Int) (A1_1 : Option Addr) (c1_1 : Nat) (l1_1 : List (List Int)) (r : Bool) (w : World) (hr0_1 : Kd.C (Kd.slice 3 (Kd.int .i64)) w A0_1 l0_1.length l0_1) (hc0_1 : l0_1.length ≤ c0_1) (hr1_1 : Kd.C (Kd.slice 3 (Kd.int .i64)) w A1_1 l1_1.length l1_1) (hc1_1 : l1_1.length ≤ c1_1) (h : trestlebook_SameCnf.f k a0_0 l0_1 a1_0 l1_1 = some r) :
    Calls Try.prog 10 #[.agg #[.int .i64 a0_0, .slice A0_1 l0_1.length c0_1], .agg #[.int .i64 a1_0, .slice A1_1 l1_1.length c1_1]] w fun e w' => e = .returned (.bool r) ∧ Below w.heap.size w w' := by
  have hu24 := Try.underlying24
  have HR0_1 := Aside0.mk hr0_1
  have HC0_1 := Aside0.mk hc0_1
  clear hr0_1 hc0_1
  have HR1_1 := Aside0.mk hr1_1
  have HC1_1 := Aside0.mk hc1_1
  clear hr1_1 hc1_1
  have HB := Aside0.mk (Below.refl w.heap.size w)
  have H : (if a0_0 = a1_0 then ((trestlebook_SameClauses.f k l0_1 l1_1).bind fun t210 => (some t210)) else (some false)) = some r := h
  clear h
  by_cases c3 : a0_0 = a1_0
  · rw [if_pos c3] at H
    have c3b0 : (a0_0 == a1_0) = true := beq_iff_eq.mpr c3
    have c3b1 : (a0_0 != a1_0) = false := bne_eq_false_iff_eq.mpr c3
    clear c3
    replace H := Option.bind_eq_some_iff.mp H
    obtain ⟨t210, A40, H⟩ := H
    replace H : (some t210) = some r := H
    have A4 := Aside0.mk A40
    clear A40
    obtain rfl := Option.some.inj H
    go_enter Try.func10, Try.ntmps10
    go_wp2_with (first | ((with_reducible refine gate_dst (N := 2) rfl ?_); refine box_event ?hg (N := 2) ?hd (cs := #[.int .i64 a0_0, .slice A0_1 l0_1.length c0_1]) (t := 24) ?hr ?_; (case hd => rfl); (case hg => rfl); (case hr => first | (go_simp; done) | (go_simp; rfl)); intro gb208 hg w5 hbox hb; have n0_ := Aside0.mk (below_step (by repeat (first | (with_reducible first | exact HB.out | apply below_alloc | apply pw_below_drewN | apply below_drew1) | exact HB.out)) hb); have n1_ := Aside0.mk (hbox); have n2_ := Aside0.mk ((by rw [hg]; exact (below_size (by repeat (first | (with_reducible first | exact HB.out | apply below_alloc | apply pw_below_drewN | apply below_drew1) | exact HB.out))) : w.heap.size ≤ gb208)); have n3_ := Aside0.mk ((by rw [hg]; exact (below_size (by repeat (first | (with_reducible first | exact HB.out | apply below_alloc | apply pw_below_drewN | apply below_drew1) | exact HB.out))) : w.heap.size ≤ gb208)); clear HB; have HB := n0_; have BK208 := n1_; have GW208 := n2_; have GE208 := n3_; clear n0_ n1_ n2_ n3_; clear hb hbox hg) | ((with_reducible refine gate_dst (N := 3) rfl ?_); refine box_event ?hg (N := 3) ?hd (cs := #[.int .i64 a1_0, .slice A1_1 l1_1.length c1_1]) (t := 24) ?hr ?_; (case hd => rfl); (case hg => rfl); (case hr => first | (go_simp; done) | (go_simp; rfl)); intro gb209 hg w6 hbox hb; have n0_ := Aside0.mk (blk_below (g := gb208) (o := .cells #[.int .i64 a0_0, .slice A0_1 l0_1.length c0_1] 24 (0, 0)) (by (with_reducible repeat (first | refine blk_drewN ?_ _ | refine blk_drew ?_ | refine blk_alloc ?_ _)); exact BK208.out) hb); have n1_ := Aside0.mk (below_step (by repeat (first | (with_reducible first | exact HB.out | apply below_alloc | apply pw_below_drewN | apply below_drew1 | refine below_set ?_ GE208.out) | exact HB.out)) hb); have n2_ := Aside0.mk (hbox); have n3_ := Aside0.mk ((by rw [hg]; exact (below_size (by repeat (first | (with_reducible first | exact HB.out | apply below_alloc | apply pw_below_drewN | apply below_drew1 | refine below_set ?_ GE208.out) | exact HB.out))) : w.heap.size ≤ gb209)); have n4_ := Aside0.mk ((by rw [hg]; exact (below_size (by repeat (first | (with_reducible first | exact HB.out | apply below_alloc | apply pw_below_drewN | apply below_drew1 | refine below_set ?_ GE208.out) | exact HB.out))) : w.heap.size ≤ gb209)); have n5_ := Aside0.mk ((by rw [hg]; exact Nat.ne_of_lt (blk_lt (g := gb208) (o := .cells #[.int .i64 a0_0, .slice A0_1 l0_1.length c0_1] 24 (0, 0)) (by (with_reducible repeat (first | refine blk_drewN ?_ _ | refine blk_drew ?_ | refine blk_alloc ?_ _)); exact BK208.out)) : gb208 ≠ gb209)); have n6_ := Aside0.mk ((by rw [hg]; exact Nat.ne_of_gt (blk_lt (g := gb208) (o := .cells #[.int .i64 a0_0, .slice A0_1 l0_1.length c0_1] 24 (0, 0)) (by (with_reducible repeat (first | refine blk_drewN ?_ _ | refine blk_drew ?_ | refine blk_alloc ?_ _)); exact BK208.out)) : gb209 ≠ gb208)); clear BK208; clear HB; have BK208 := n0_; have HB := n1_; have BK209 := n2_; have GW209 := n3_; have GE209 := n4_; have NB208_209 := n5_; have NB209_208 := n6_; clear n0_ n1_ n2_ n3_ n4_ n5_ n6_; clear hb hbox hg; have hnb7 := NB208_209.out; have hnc7 := NB209_208.out; have hcz8_0 : w6.cell? ⟨gb208, 0, none⟩ = some (.int .i64 a0_0) := (blk_cell BK208.out 0).trans rfl; have hcz8_1 : w6.cell? ⟨gb208, 1, none⟩ = some (.slice A0_1 l0_1.length c0_1) := (blk_cell BK208.out 1).trans rfl; have hfz8_0 := blk_frozen BK208.out 0; have hfz8_1 := blk_frozen BK208.out 1; have hcz9_0 : w6.cell? ⟨gb209, 0, none⟩ = some (.int .i64 a1_0) := (blk_cell BK209.out 0).trans rfl; have hcz9_1 : w6.cell? ⟨gb209, 1, none⟩ = some (.slice A1_1 l1_1.length c1_1) := (blk_cell BK209.out 1).trans rfl; have hfz9_0 := blk_frozen BK209.out 0; have hfz9_1 := blk_frozen BK209.out 1) | (go_at_call 27; (with_reducible refine (trestlebook_SameClauses.calls k _ _ l0_1 _ _ l1_1 t210 _ ?side1 ?side2 ?side3 ?side4 A4.out).mono ?_); (case side1 => repeat (first | exact (Kd.C_below HR0_1.out HB.out) | (with_reducible refine Kd.C_alloc ?_ _) | (with_reducible refine Kd.C_drewN ?_ _) | (with_reducible refine Kd.C_drew ?_))); (case side2 => exact HC0_1.out); (case side3 => repeat (first | exact (Kd.C_below HR1_1.out HB.out) | (with_reducible refine Kd.C_alloc ?_ _) | (with_reducible refine Kd.C_drewN ?_ _) | (with_reducible refine Kd.C_drew ?_))); (case side4 => exact HC1_1.out); rintro e w' ⟨rfl, ⟨nd, rfl⟩⟩))
    go_ret
    exact ⟨by first | rfl | (simp [errW_none, errW_some] <;> rfl) | (simp [*, errW_none, errW_some] <;> rfl), by repeat (first | (with_reducible first | exact HB.out | apply below_alloc | apply pw_below_drewN | apply below_drew1 | refine below_set ?_ GE208.out | refine below_set ?_ GE209.out) | exact HB.out)⟩
  · rw [if_neg c3] at H
    have c3b0 : (a0_0 == a1_0) = false := beq_eq_false_iff_ne.mpr c3
    have c3b1 : (a0_0 != a1_0) = true := bne_iff_ne.mpr c3
    obtain rfl := Option.some.inj H
    go_enter Try.func10, Try.ntmps10
    go_wp2_with (first | ((with_reducible refine gate_dst (N := 2) rfl ?_); refine box_event ?hg (N := 2) ?hd (cs := #[.int .i64 a0_0, .slice A0_1 l0_1.length c0_1]) (t := 24) ?hr ?_; (case hd => rfl); (case hg => rfl); (case hr => first | (go_simp; done) | (go_simp; rfl)); intro gb208 hg w10 hbox hb; have n0_ := Aside0.mk (below_step (by repeat (first | (with_reducible first | exact HB.out | apply below_alloc | apply pw_below_drewN | apply below_drew1) | exact HB.out)) hb); have n1_ := Aside0.mk (hbox); have n2_ := Aside0.mk ((by rw [hg]; exact (below_size (by repeat (first | (with_reducible first | exact HB.out | apply below_alloc | apply pw_below_drewN | apply below_drew1) | exact HB.out))) : w.heap.size ≤ gb208)); have n3_ := Aside0.mk ((by rw [hg]; exact (below_size (by repeat (first | (with_reducible first | exact HB.out | apply below_alloc | apply pw_below_drewN | apply below_drew1) | exact HB.out))) : w.heap.size ≤ gb208)); clear HB; have HB := n0_; have BK208 := n1_; have GW208 := n2_; have GE208 := n3_; clear n0_ n1_ n2_ n3_; clear hb hbox hg) | ((with_reducible refine gate_dst (N := 3) rfl ?_); refine box_event ?hg (N := 3) ?hd (cs := #[.int .i64 a1_0, .slice A1_1 l1_1.length c1_1]) (t := 24) ?hr ?_; (case hd => rfl); (case hg => rfl); (case hr => first | (go_simp; done) | (go_simp; rfl)); intro gb209 hg w11 hbox hb; have n0_ := Aside0.mk (blk_below (g := gb208) (o := .cells #[.int .i64 a0_0, .slice A0_1 l0_1.length c0_1] 24 (0, 0)) (by (with_reducible repeat (first | refine blk_drewN ?_ _ | refine blk_drew ?_ | refine blk_alloc ?_ _)); exact BK208.out) hb); have n1_ := Aside0.mk (below_step (by repeat (first | (with_reducible first | exact HB.out | apply below_alloc | apply pw_below_drewN | apply below_drew1 | refine below_set ?_ GE208.out) | exact HB.out)) hb); have n2_ := Aside0.mk (hbox); have n3_ := Aside0.mk ((by rw [hg]; exact (below_size (by repeat (first | (with_reducible first | exact HB.out | apply below_alloc | apply pw_below_drewN | apply below_drew1 | refine below_set ?_ GE208.out) | exact HB.out))) : w.heap.size ≤ gb209)); have n4_ := Aside0.mk ((by rw [hg]; exact (below_size (by repeat (first | (with_reducible first | exact HB.out | apply below_alloc | apply pw_below_drewN | apply below_drew1 | refine below_set ?_ GE208.out) | exact HB.out))) : w.heap.size ≤ gb209)); have n5_ := Aside0.mk ((by rw [hg]; exact Nat.ne_of_lt (blk_lt (g := gb208) (o := .cells #[.int .i64 a0_0, .slice A0_1 l0_1.length c0_1] 24 (0, 0)) (by (with_reducible repeat (first | refine blk_drewN ?_ _ | refine blk_drew ?_ | refine blk_alloc ?_ _)); exact BK208.out)) : gb208 ≠ gb209)); have n6_ := Aside0.mk ((by rw [hg]; exact Nat.ne_of_gt (blk_lt (g := gb208) (o := .cells #[.int .i64 a0_0, .slice A0_1 l0_1.length c0_1] 24 (0, 0)) (by (with_reducible repeat (first | refine blk_drewN ?_ _ | refine blk_drew ?_ | refine blk_alloc ?_ _)); exact BK208.out)) : gb209 ≠ gb208)); clear BK208; clear HB; have BK208 := n0_; have HB := n1_; have BK209 := n2_; have GW209 := n3_; have GE209 := n4_; have NB208_209 := n5_; have NB209_208 := n6_; clear n0_ n1_ n2_ n3_ n4_ n5_ n6_; clear hb hbox hg; have hnb12 := NB208_209.out; have hnc12 := NB209_208.out; have hcz13_0 : w11.cell? ⟨gb208, 0, none⟩ = some (.int .i64 a0_0) := (blk_cell BK208.out 0).trans rfl; have hcz13_1 : w11.cell? ⟨gb208, 1, none⟩ = some (.slice A0_1 l0_1.length c0_1) := (blk_cell BK208.out 1).trans rfl; have hfz13_0 := blk_frozen BK208.out 0; have hfz13_1 := blk_frozen BK208.out 1; have hcz14_0 : w11.cell? ⟨gb209, 0, none⟩ = some (.int .i64 a1_0) := (blk_cell BK209.out 0).trans rfl; have hcz14_1 : w11.cell? ⟨gb209, 1, none⟩ = some (.slice A1_1 l1_1.length c1_1) := (blk_cell BK209.out 1).trans rfl; have hfz14_0 := blk_frozen BK209.out 0; have hfz14_1 := blk_frozen BK209.out 1))
    go_ret
    exact ⟨by first | rfl | (simp [errW_none, errW_some] <;> rfl) | (simp [*, errW_none, errW_some] <;> rfl), by repeat (first | (with_reducible first | exact HB.out | apply below_alloc | apply pw_below_drewN | apply below_drew1 | refine below_set ?_ GE208.out | refine below_set ?_ GE209.out) | exact HB.out)⟩

end Go.Proofs.Ythhmjfjkbmmcaaa.GCO
/- KeptInts, KeptCnf: what was lent is as it was. -/
namespace Go.Proofs.Ythhmjfjkbmmcaaa
open Go.RowKit Go.Proofs.YthhmjfjkbmmcaaaW.PrintWords Go.Proofs.YthhmjfjkbmmcaaaW.PrintLast Go.Proofs.YthhmjfjkbmmcaaaW.PrintMore
set_option linter.unusedVariables false
set_option linter.unusedSimpArgs false

theorem sameIntsO_loop (xs : List Int) (hl : xs.length ≤ 9223372036854775806) : ∀ k i, i ≤ xs.length → xs.length < k + i → GCO.trestlebook_SameInts.l0 k xs xs (i : Int) = some true := by
  intro k
  induction k with
  | zero => intro i h1 h2; omega
  | succ k ih =>
    intro i h1 h2
    unfold GCO.trestlebook_SameInts.l0
    by_cases hlt : i < xs.length
    · have hw : wrap64 ((i : Int) + 1) = ((i + 1 : Nat) : Int) := by unfold wrap64; omega
      rw [if_pos (by omega), if_pos (by omega), if_pos (by omega), if_pos rfl, hw]
      exact ih (i + 1) (by omega) (by omega)
    · rw [if_neg (by omega)]
theorem sameIntsO_refl (xs : List Int) (hl : xs.length ≤ 9223372036854775806) {k : Nat} (hk : xs.length < k) : GCO.trestlebook_SameInts.f k xs xs = some true := by
  unfold GCO.trestlebook_SameInts.f
  rw [if_pos rfl]
  exact sameIntsO_loop xs hl k 0 (Nat.zero_le _) (by omega)
theorem sameClausesO_loop (ls : List (List Int)) (m : Nat) (hm : m ≤ 9223372036854775806) (hs : ∀ l ∈ ls, l.length < m) (hl : ls.length ≤ 9223372036854775806) : ∀ k i, i ≤ ls.length → ls.length + m < k + i → GCO.trestlebook_SameClauses.l0 k ls ls (i : Int) = some true := by
  intro k
  induction k with
  | zero => intro i h1 h2; omega
  | succ k ih =>
    intro i h1 h2
    unfold GCO.trestlebook_SameClauses.l0
    by_cases hlt : i < ls.length
    · have hw : wrap64 ((i : Int) + 1) = ((i + 1 : Nat) : Int) := by unfold wrap64; omega
      have hrd : GCO.rd_L1 ls (i : Int) = ls[i] := by simp [GCO.rd_L1, List.getD_eq_getElem?_getD, List.getElem?_eq_getElem hlt]
      have hm1 := hs _ (List.getElem_mem hlt)
      rw [if_pos (by omega), if_pos (by omega), if_pos (by omega), hrd, sameIntsO_refl _ (by omega) (by omega), Option.bind_some, if_pos rfl, hw]
      exact ih (i + 1) (by omega) (by omega)
    · rw [if_neg (by omega)]
theorem sameCnfO_f (v : Int) (ls : List (List Int)) (hl : ls.length ≤ 4398046511104) (hs : ∀ l ∈ ls, l.length ≤ 1099511627776) : GCO.trestlebook_SameCnf.f (ls.length + 1099511627777 + 1) v ls v ls = some true := by
  unfold GCO.trestlebook_SameCnf.f GCO.trestlebook_SameClauses.f
  rw [if_pos rfl, if_pos rfl]
  have := sameClausesO_loop ls 1099511627777 (by omega) (fun l hl => by have := hs l hl; omega) (by omega) (ls.length + 1099511627777 + 1) 0 (Nat.zero_le _) (by omega)
  rw [show ((0 : Nat) : Int) = 0 from rfl] at this
  rw [this]
  rfl
theorem sameCnfO_refl (v : Int) (n : Nat) (A B : Option Addr) (c d : Nat) (ls : List (List Int)) (w : World) (hn : n = ls.length) (h1 : Kd.C kClause w A n ls) (hc : n ≤ c) (h2 : Kd.C kClause w B n ls) (hd : n ≤ d) (hl : ls.length ≤ 4398046511104) (hs : ∀ l ∈ ls, l.length ≤ 1099511627776) :
    Calls Try.prog 10 #[.agg #[.int .i64 v, .slice A n c], .agg #[.int .i64 v, .slice B n d]] w fun e w' => e = .returned (.bool true) ∧ Below w.heap.size w w' := by
  subst hn
  exact GCO.trestlebook_SameCnf.calls (ls.length + 1099511627777 + 1) v A c ls v B d ls true w h1 hc h2 hd (sameCnfO_f v ls hl hs)

set_option maxHeartbeats 2000000 in
theorem keptInts_calls (ad : Addr) (A : Option Addr) (n c c0 : Nat) (xs : List Int) (w : World) (hn : n = xs.length) (h1 : (Kd.int .i64).C w (some ad) (n + 1) (xs ++ [-77])) (hc : n + 1 ≤ c) (h2 : (Kd.int .i64).C w A n xs) (hc0 : n ≤ c0) (hl : n ≤ 1099511627776) :
    Calls Try.prog 29 #[.slice (some ad) n c, .slice A n c0] w fun e w' => e = .returned (.bool true) ∧ Below w.heap.size w w' := by
  obtain ⟨ad', e, hcl⟩ := Kd.at_int h1 (n : Int) (by omega) (by omega)
  cases e
  rw [Int.toNat_natCast, show rd (xs ++ [-77]) (n : Int) = -77 by rw [hn]; simp [rd]] at hcl
  have HS : Aside0 (Calls Try.prog 50 #[.slice (some ad) n c, .slice A n c0] w fun e w' => e = .returned (.bool true) ∧ Below w.heap.size w w') := ⟨by
    subst hn
    have h3 := Kd.C_take (xs := xs ++ [-77]) (m := xs.length) (by rw [List.length_append]; exact h1) (by simp)
    rw [List.take_append_of_le_length (Nat.le_refl _), List.take_length] at h3
    exact (GCO.trestlebook_SameInts.calls (xs.length + 1) (some ad) c xs A c0 xs true w h3 (by omega) h2 hc0 (sameIntsO_refl xs (by omega) (by omega))).mono fun e w' h => ⟨h.1, h.2.below⟩⟩
  have HCL := Aside0.mk hcl
  clear h1 h2 hn hcl
  go_enter Try.func29, Try.ntmps29
  go_wp2_with (go_at_call 50; refine HS.out.mono ?_; rintro e w1 ⟨rfl, hb⟩; have hcl1 := pw_cell_below hb HCL.out; have HB := Aside0.mk hb; clear hb)
  go_ret
  exact ⟨rfl, HB.out⟩

theorem lend_clause {w : World} {ad : Addr} {n : Nat} {ls : List (List Int)} (hn : n = ls.length) (h : Kd.C kLend w (some ad) (n + 1) (ls.map some ++ [none])) : Kd.C kClause w (some ad) n ls := by
  refine ⟨hn.symm, by have := h.2.1; omega, fun h0 => ?_⟩
  obtain ⟨ad', e, hc⟩ := h.2.2 (by omega)
  cases e
  refine ⟨ad, rfl, fun j p hj => ?_⟩
  have hjl := (List.getElem?_eq_some_iff.1 hj).1
  obtain ⟨c, hcl, ⟨a0, c0, n0, rfl, hn0, hc0, hC⟩, hcell⟩ := hc j (some p) (by rw [List.getElem?_append_left (by rw [List.length_map]; exact hjl), List.getElem?_map, hj]; rfl)
  refine ⟨[.slice (some a0) n0 c0], rfl, ⟨some a0, c0, by rw [hn0], by omega, ?_⟩, hcell⟩
  subst hn0
  have h3 := Kd.C_take (xs := p ++ [-77]) (m := p.length) (by rw [List.length_append]; exact hC) (by simp)
  rwa [List.take_append_of_le_length (Nat.le_refl _), List.take_length] at h3
theorem lend_at {w : World} {ad : Addr} {n : Nat} {ls : List (List Int)} (hn : n = ls.length) (h : Kd.C kLend w (some ad) (n + 1) (ls.map some ++ [none])) (i : Nat) (hi : i < n) :
    ∃ a0 c0 l, ls[i]? = some l ∧ w.cell? (ad.add i) = some (.slice (some a0) l.length c0) ∧ l.length + 1 ≤ c0 ∧ (Kd.int .i64).C w (some a0) (l.length + 1) (l ++ [-77]) := by
  obtain ⟨ad', e, hc⟩ := h.2.2 (by omega)
  cases e
  have hl : ls[i]? = some ls[i] := List.getElem?_eq_getElem (by omega)
  obtain ⟨c, hcl, ⟨a0, c0, n0, rfl, hn0, hc0, hC⟩, hcell⟩ := hc i (some ls[i]) (by rw [List.getElem?_append_left (by rw [List.length_map]; omega), List.getElem?_map, hl]; rfl)
  subst hn0
  have hx := hcell 0 _ rfl
  rw [show i * kLend.sz + 0 = i by show i * 1 + 0 = i; omega] at hx
  exact ⟨a0, c0, ls[i], hl, hx, hc0, hC⟩
theorem lend_last {w : World} {ad : Addr} {n : Nat} {ls : List (List Int)} (hn : n = ls.length) (h : Kd.C kLend w (some ad) (n + 1) (ls.map some ++ [none])) : ∃ a0 c0, w.cell? (ad.add n) = some (.slice (some a0) 1 c0) := by
  obtain ⟨ad', e, hc⟩ := h.2.2 (by omega)
  cases e
  obtain ⟨c, hcl, ⟨a0, c0, n0, rfl, hn0⟩, hcell⟩ := hc n none (by rw [List.getElem?_append_right (by rw [List.length_map]; omega), List.length_map, hn]; simp)
  have hn1 : n0 = 1 := hn0
  subst hn1
  have hx := hcell 0 _ rfl
  rw [show n * kLend.sz + 0 = n by show n * 1 + 0 = n; omega] at hx
  exact ⟨a0, c0, hx⟩

set_option maxRecDepth 100000 in
set_option maxHeartbeats 4000000 in
theorem keptCnf_calls (v : Int) (ad : Addr) (A : Option Addr) (n c c0 : Nat) (ls : List (List Int)) (w : World) (hn : n = ls.length) (h1 : Kd.C kLend w (some ad) (n + 1) (ls.map some ++ [none])) (hc : n + 1 ≤ c) (h2 : Kd.C kClause w A n ls) (hc0 : n ≤ c0) (hl : n ≤ 1099511627776) (hs : ∀ l ∈ ls, l.length ≤ 1099511627776) :
    Calls Try.prog 13 #[.agg #[.int .i64 v, .slice (some ad) n c], .agg #[.int .i64 v, .slice A n c0]] w fun e w' => e = .returned (.bool true) ∧ Below w.heap.size w w' := by
  have HL := Aside0.mk h1
  have HR := Aside0.mk h2
  have HN := Aside0.mk hn
  have HS := Aside0.mk hs
  have HSC : Aside0 (∀ W, Below w.heap.size w W → Calls Try.prog 10 #[.agg #[.int .i64 v, .slice (some ad) n c], .agg #[.int .i64 v, .slice A n c0]] W fun e w' => e = .returned (.bool true) ∧ Below W.heap.size W w') := ⟨fun W hW => sameCnfO_refl v n (some ad) A c c0 ls W hn (lend_clause hn (Kd.C_below h1 hW)) (by omega) (Kd.C_below h2 hW) hc0 (by omega) hs⟩
  obtain ⟨w0, hw0⟩ : ∃ w0, w0 = (w.alloc (.cells #[.int .i64 v, .slice (some ad) n c] 24)).alloc (.cells #[.int .i64 v, .slice A n c0] 24) := ⟨_, rfl⟩
  have HW0 := Aside0.mk hw0
  clear h1 h2 hn hs hw0
  go_enter Try.func13, Try.ntmps13
  go_wp2
  rw [← HW0.out]
  obtain ⟨b1, hb1⟩ : ∃ b1, b1 = w.heap.size := ⟨_, rfl⟩
  obtain ⟨b2, hb2⟩ : ∃ b2, b2 = b1 + 1 := ⟨_, rfl⟩
  rw [← hb1, ← hb2]
  have HK1 := Aside0.mk (show w0.heap[b1]? = some (.cells #[.int .i64 v, .slice (some ad) n c] 24 (0, 0)) by rw [HW0.out, hb1]; exact blk_alloc (heap_alloc_new w _) _)
  have HK2 := Aside0.mk (show w0.heap[b2]? = some (.cells #[.int .i64 v, .slice A n c0] 24 (0, 0)) by
    rw [HW0.out, hb2, hb1]
    have := heap_alloc_new (w.alloc (.cells #[.int .i64 v, .slice (some ad) n c] 24)) (.cells #[.int .i64 v, .slice A n c0] 24)
    simpa using this)
  have HBW := Aside0.mk (show Below w.heap.size w w0 by rw [HW0.out]; exact below_alloc (below_alloc (Below.refl _ _) _) _)
  obtain ⟨al, cl, hlast0⟩ := lend_last HN.out HL.out
  have hlast : w0.cell? (ad.add n) = some (.slice (some al) 1 cl) := pw_cell_below HBW.out hlast0
  have x10 : w0.cell? ⟨b1, 0, none⟩ = some (.int .i64 v) := blk_cell HK1.out 0
  have x11 : w0.cell? ⟨b1, 1, none⟩ = some (.slice (some ad) n c) := blk_cell HK1.out 1
  have x20 : w0.cell? ⟨b2, 0, none⟩ = some (.int .i64 v) := blk_cell HK2.out 0
  have x21 : w0.cell? ⟨b2, 1, none⟩ = some (.slice A n c0) := blk_cell HK2.out 1
  have hg0 : (0 : Int) ≤ (n : Int) := by omega
  have hg1 : (n : Int) < (n : Int) + 1 := by omega
  have hw1 : wrap64 ((n : Int) + 1) = (n : Int) + 1 := by unfold wrap64; omega
  have hw2 : ((n : Int) + 1).toNat = n + 1 := by omega
  have hw3 : (0 : Int) ≤ (n : Int) + 1 := by omega
  have hw4 : (n : Int) + 1 ≤ (c : Int) := by omega
  clear hb1 hb2 hlast0
  refine start_ (n := 20) (S := fun w' => w'.cell? ⟨b1, 0, none⟩ = some (.int .i64 v) ∧ w'.cell? ⟨b1, 1, none⟩ = some (.slice (some ad) n c) ∧ w'.cell? ⟨b2, 0, none⟩ = some (.int .i64 v) ∧ w'.cell? ⟨b2, 1, none⟩ = some (.slice A n c0) ∧ w'.cell? (ad.add n) = some (.slice (some al) 1 cl)) (ds := []) #[false, false, false, false, false, false, false, false, false, false, false, false, false, false, false, false, false, false, false, false] (by kernel_rfl) rfl rfl ⟨x10, x11, x20, x21, hlast⟩ (fun hHeld => ?_)
  refine take_ (i := 0) (N := (some 6)) (v := ?_) (a' := ?_) #[true, false, false, false, false, false, false, false, false, false, false, false, false, false, false, false, false, false, false, false] rfl rfl (by kernel_rfl) (fun _ _ _ h => h) (Or.inl ⟨by rfl, ?_⟩) hHeld ?_ ?_
  rotate_left
  · rintro w' ⟨s0, s1, s2, s3, s4⟩
    go_simp
    with_reducible rfl
  rotate_left
  · simp only [Act.put, List.setIfInBounds_toArray, List.set_cons_zero, List.set_cons_succ, i64_w, i32_w]
    rfl
  refine take_ (i := 1) (N := (some 7)) (v := ?_) (a' := ?_) #[true, true, false, false, false, false, false, false, false, false, false, false, false, false, false, false, false, false, false, false] rfl rfl (by kernel_rfl) (fun _ _ _ h => h) (Or.inl ⟨by rfl, ?_⟩) hHeld ?_ ?_
  rotate_left
  · rintro w' ⟨s0, s1, s2, s3, s4⟩
    go_simp
    with_reducible rfl
  rotate_left
  · simp only [Act.put, List.setIfInBounds_toArray, List.set_cons_zero, List.set_cons_succ, i64_w, i32_w]
    rfl
  refine one_ (i := 2) (N := (some 8)) #[true, true, true, false, false, false, false, false, false, false, false, false, false, false, false, false, false, false, false, false] rfl rfl (by kernel_rfl) (by decide) (fun K hK => ?_)
  refine goes_ Try.func10 (by kernel_rfl) rfl #[.agg #[.int .i64 v, .slice (some ad) n c], .agg #[.int .i64 v, .slice A n c0]] (by rfl) rfl rfl (by (try simp only [List.map_toArray, List.map_cons, List.map_nil]); first | done | rfl) ?_
  refine (HSC.out _ (below_drew HBW.out)).mono ?_
  rintro e w1 ⟨rfl, hb⟩
  refine ⟨_, rfl, ?_⟩
  have hb' := below_then (below_drew (Below.refl w0.heap.size w0)) (Nat.le_refl _) hb
  have y10 : w1.cell? ⟨b1, 0, none⟩ = some (.int .i64 v) := pw_cell_below hb' x10
  have y11 : w1.cell? ⟨b1, 1, none⟩ = some (.slice (some ad) n c) := pw_cell_below hb' x11
  have y20 : w1.cell? ⟨b2, 0, none⟩ = some (.int .i64 v) := pw_cell_below hb' x20
  have y21 : w1.cell? ⟨b2, 1, none⟩ = some (.slice A n c0) := pw_cell_below hb' x21
  have ylast : w1.cell? (ad.add n) = some (.slice (some al) 1 cl) := pw_cell_below hb' hlast
  have HB1 := Aside0.mk hb'
  clear hb hb'
  refine hK.out _ _ ⟨y10, y11, y20, y21, ylast⟩ (fun hHeld => ?_)
  clear hK K
  refine norm_ (a' := ?_) ?_ ?_
  rotate_left
  · show Act.put _ (some 8) _ = _
    simp only [Act.put, List.setIfInBounds_toArray, List.set_cons_zero, List.set_cons_succ, i64_w, i32_w]
    rfl
  refine pure_ (i := 3) (N := (some 9)) (v := ?_) (a' := ?_) #[true, true, true, true, false, false, false, false, false, false, false, false, false, false, false, false, false, false, false, false] rfl rfl (by kernel_rfl) (fun _ _ _ h => h) (Or.inl ⟨by rfl, ?_⟩) ?_ ?_
  rotate_left
  · intro w'
    go_simp
    with_reducible rfl
  rotate_left
  · simp only [Act.put, List.setIfInBounds_toArray, List.set_cons_zero, List.set_cons_succ, i64_w, i32_w]
    rfl
  refine pure_ (i := 4) (N := (some 10)) (v := ?_) (a' := ?_) #[true, true, true, true, true, false, false, false, false, false, false, false, false, false, false, false, false, false, false, false] rfl rfl (by kernel_rfl) (fun _ _ _ h => h) (Or.inl ⟨by rfl, ?_⟩) ?_ ?_
  rotate_left
  · intro w'
    go_simp
    with_reducible rfl
  rotate_left
  · simp only [Act.put, List.setIfInBounds_toArray, List.set_cons_zero, List.set_cons_succ, i64_w, i32_w]
    rfl
  refine pure_ (i := 5) (N := (some 11)) (v := ?_) (a' := ?_) #[true, true, true, true, true, true, false, false, false, false, false, false, false, false, false, false, false, false, false, false] rfl rfl (by kernel_rfl) (fun _ _ _ h => h) (Or.inl ⟨by rfl, ?_⟩) ?_ ?_
  rotate_left
  · intro w'
    go_simp
    with_reducible rfl
  rotate_left
  · simp only [Act.put, List.setIfInBounds_toArray, List.set_cons_zero, List.set_cons_succ, i64_w, i32_w]
    rfl
  refine take_ (i := 6) (N := (some 12)) (v := ?_) (a' := ?_) #[true, true, true, true, true, true, true, false, false, false, false, false, false, false, false, false, false, false, false, false] rfl rfl (by kernel_rfl) (fun _ _ _ h => h) (Or.inl ⟨by rfl, ?_⟩) hHeld ?_ ?_
  rotate_left
  · rintro w' ⟨s0, s1, s2, s3, s4⟩
    go_simp
    with_reducible rfl
  rotate_left
  · simp only [Act.put, List.setIfInBounds_toArray, List.set_cons_zero, List.set_cons_succ, i64_w, i32_w]
    rfl
  refine pure_ (i := 7) (N := (some 13)) (v := ?_) (a' := ?_) #[true, true, true, true, true, true, true, true, false, false, false, false, false, false, false, false, false, false, false, false] rfl rfl (by kernel_rfl) (fun _ _ _ h => h) (Or.inl ⟨by rfl, ?_⟩) ?_ ?_
  rotate_left
  · intro w'
    go_simp
    with_reducible rfl
  rotate_left
  · simp only [Act.put, List.setIfInBounds_toArray, List.set_cons_zero, List.set_cons_succ, i64_w, i32_w]
    rfl
  refine take_ (i := 8) (N := (some 14)) (v := ?_) (a' := ?_) #[true, true, true, true, true, true, true, true, true, false, false, false, false, false, false, false, false, false, false, false] rfl rfl (by kernel_rfl) (fun _ _ _ h => h) (Or.inl ⟨by rfl, ?_⟩) hHeld ?_ ?_
  rotate_left
  · rintro w' ⟨s0, s1, s2, s3, s4⟩
    go_simp
    with_reducible rfl
  rotate_left
  · simp only [Act.put, List.setIfInBounds_toArray, List.set_cons_zero, List.set_cons_succ, i64_w, i32_w]
    rfl
  refine pure_ (i := 9) (N := (some 15)) (v := ?_) (a' := ?_) #[true, true, true, true, true, true, true, true, true, true, false, false, false, false, false, false, false, false, false, false] rfl rfl (by kernel_rfl) (fun _ _ _ h => h) (Or.inl ⟨by rfl, ?_⟩) ?_ ?_
  rotate_left
  · intro w'
    go_simp
    with_reducible rfl
  rotate_left
  · simp only [Act.put, List.setIfInBounds_toArray, List.set_cons_zero, List.set_cons_succ, i64_w, i32_w]
    rfl
  refine pure_ (i := 10) (N := (some 16)) (v := ?_) (a' := ?_) #[true, true, true, true, true, true, true, true, true, true, true, false, false, false, false, false, false, false, false, false] rfl rfl (by kernel_rfl) (fun _ _ _ h => h) (Or.inl ⟨by rfl, ?_⟩) ?_ ?_
  rotate_left
  · intro w'
    go_simp
    with_reducible rfl
  rotate_left
  · simp only [Act.put, List.setIfInBounds_toArray, List.set_cons_zero, List.set_cons_succ, i64_w, i32_w]
    rfl
  refine pure_ (i := 11) (N := (some 17)) (v := ?_) (a' := ?_) #[true, true, true, true, true, true, true, true, true, true, true, true, false, false, false, false, false, false, false, false] rfl rfl (by kernel_rfl) (fun _ _ _ h => h) (Or.inl ⟨by rfl, ?_⟩) ?_ ?_
  rotate_left
  · intro w'
    go_simp
    with_reducible rfl
  rotate_left
  · simp only [Act.put, List.setIfInBounds_toArray, List.set_cons_zero, List.set_cons_succ, i64_w, i32_w]
    rfl
  refine pure_ (i := 12) (N := (some 18)) (v := ?_) (a' := ?_) #[true, true, true, true, true, true, true, true, true, true, true, true, true, false, false, false, false, false, false, false] rfl rfl (by kernel_rfl) (fun _ _ _ h => h) (Or.inl ⟨by rfl, ?_⟩) ?_ ?_
  rotate_left
  · intro w'
    go_simp
    with_reducible rfl
  rotate_left
  · simp only [Act.put, List.setIfInBounds_toArray, List.set_cons_zero, List.set_cons_succ, i64_w, i32_w]
    rfl
  refine take_ (i := 13) (N := (some 19)) (v := ?_) (a' := ?_) #[true, true, true, true, true, true, true, true, true, true, true, true, true, true, false, false, false, false, false, false] rfl rfl (by kernel_rfl) (fun _ _ _ h => h) (Or.inl ⟨by rfl, ?_⟩) hHeld ?_ ?_
  rotate_left
  · rintro w' ⟨s0, s1, s2, s3, s4⟩
    go_simp
    with_reducible rfl
  rotate_left
  · simp only [Act.put, List.setIfInBounds_toArray, List.set_cons_zero, List.set_cons_succ, i64_w, i32_w]
    rfl
  refine pure_ (i := 14) (N := (some 20)) (v := ?_) (a' := ?_) #[true, true, true, true, true, true, true, true, true, true, true, true, true, true, true, false, false, false, false, false] rfl rfl (by kernel_rfl) (fun _ _ _ h => h) (Or.inl ⟨by rfl, ?_⟩) ?_ ?_
  rotate_left
  · intro w'
    go_simp
    with_reducible rfl
  rotate_left
  · simp only [Act.put, List.setIfInBounds_toArray, List.set_cons_zero, List.set_cons_succ, i64_w, i32_w]
    rfl
  refine pure_ (i := 15) (N := (some 21)) (v := ?_) (a' := ?_) #[true, true, true, true, true, true, true, true, true, true, true, true, true, true, true, true, false, false, false, false] rfl rfl (by kernel_rfl) (fun _ _ _ h => h) (Or.inl ⟨by rfl, ?_⟩) ?_ ?_
  rotate_left
  · intro w'
    go_simp
    with_reducible rfl
  rotate_left
  · simp only [Act.put, List.setIfInBounds_toArray, List.set_cons_zero, List.set_cons_succ, i64_w, i32_w]
    rfl
  refine take_ (i := 16) (N := (some 22)) (v := ?_) (a' := ?_) #[true, true, true, true, true, true, true, true, true, true, true, true, true, true, true, true, true, false, false, false] rfl rfl (by kernel_rfl) (fun _ _ _ h => h) (Or.inl ⟨by rfl, ?_⟩) hHeld ?_ ?_
  rotate_left
  · rintro w' ⟨s0, s1, s2, s3, s4⟩
    go_simp
    with_reducible rfl
  rotate_left
  · simp only [Act.put, List.setIfInBounds_toArray, List.set_cons_zero, List.set_cons_succ, i64_w, i32_w]
    rfl
  refine pure_ (i := 17) (N := (some 23)) (v := ?_) (a' := ?_) #[true, true, true, true, true, true, true, true, true, true, true, true, true, true, true, true, true, true, false, false] rfl rfl (by kernel_rfl) (fun _ _ _ h => h) (Or.inl ⟨by rfl, ?_⟩) ?_ ?_
  rotate_left
  · intro w'
    go_simp
    with_reducible rfl
  rotate_left
  · simp only [Act.put, List.setIfInBounds_toArray, List.set_cons_zero, List.set_cons_succ, i64_w, i32_w]
    rfl
  refine pure_ (i := 18) (N := (some 24)) (v := ?_) (a' := ?_) #[true, true, true, true, true, true, true, true, true, true, true, true, true, true, true, true, true, true, true, false] rfl rfl (by kernel_rfl) (fun _ _ _ h => h) (Or.inl ⟨by rfl, ?_⟩) ?_ ?_
  rotate_left
  · intro w'
    go_simp
    with_reducible rfl
  rotate_left
  · simp only [Act.put, List.setIfInBounds_toArray, List.set_cons_zero, List.set_cons_succ, i64_w, i32_w]
    rfl
  refine pure_ (i := 19) (N := (some 25)) (v := ?_) (a' := ?_) #[true, true, true, true, true, true, true, true, true, true, true, true, true, true, true, true, true, true, true, true] rfl rfl (by kernel_rfl) (fun _ _ _ h => h) (Or.inl ⟨by rfl, ?_⟩) ?_ ?_
  rotate_left
  · intro w'
    go_simp
    with_reducible rfl
  rotate_left
  · simp only [Act.put, List.setIfInBounds_toArray, List.set_cons_zero, List.set_cons_succ, i64_w, i32_w]
    rfl
  refine done_ (by kernel_rfl) ?_
  try go_wp2
  clear hw1 hw2 hw3 hw4 x10 x11 x20 x21 hlast y10 y11 y20 y21 ylast hg0 hg1 hHeld
  go_loopw [5] (fun v wr => ∃ i : Nat, v = .int .i64 (i : Int) ∧ i ≤ n ∧ Aside0 (Below w0.heap.size w0 wr)) (fun v _ => n - (intOf v).toNat)
  case atStart => exact ⟨0, rfl, Nat.zero_le _, HB1⟩
  case round =>
    obtain ⟨i, rfl, hi, HB⟩ := hrel
    have y1 : wr.cell? ⟨b1, 1, none⟩ = some (.slice (some ad) n c) := blk_cell (blk_below HK1.out HB.out) 1
    have y2 : wr.cell? ⟨b2, 1, none⟩ = some (.slice A n c0) := blk_cell (blk_below HK2.out HB.out) 1
    by_cases hlt : i < n
    · obtain ⟨a0, d0, l, hl0, hx, hd0, hCl⟩ := lend_at HN.out (Kd.C_below (Kd.C_below HL.out HBW.out) HB.out) i hlt
      obtain ⟨aw, A0, c1, l', e, hl1, hcw, hlc1, hCw⟩ := at_rows (Kd.C_below (Kd.C_below HR.out HBW.out) HB.out) i hlt
      cases e
      obtain rfl : l = l' := Option.some.inj (hl0.symm.trans hl1)
      have HLB := Aside0.mk (HS.out l (List.mem_of_getElem? hl0))
      obtain ⟨q, hq⟩ : ∃ q, q = l.length := ⟨_, rfl⟩
      have HKI : Aside0 (∀ W, Below wr.heap.size wr W → Calls Try.prog 29 #[.slice (some a0) q d0, .slice A0 q c1] W fun e w' => e = .returned (.bool true) ∧ Below W.heap.size W w') := ⟨fun W hW => by
        rw [← hq] at hd0 hCl hlc1 hCw
        exact keptInts_calls a0 A0 q d0 c1 l W hq (Kd.C_below hCl hW) hd0 (Kd.C_below hCw hW) hlc1 (by have := HLB.out; omega)⟩
      rw [← hq] at hx hcw
      have hdi : decide (i < n) = true := decide_eq_true hlt
      have hdj : decide ((i : Int) < (n : Int)) = true := decide_eq_true (by omega)
      have hg0 : (0 : Int) ≤ (i : Int) := by omega
      have hg1 : (i : Int) < (n : Int) := by omega
      clear hl0 hl1 hd0 hCl hlc1 hCw hq
      go_wp2
      refine start_ (n := 12) (S := fun w' => w'.cell? ⟨b1, 1, none⟩ = some (.slice (some ad) n c) ∧ w'.cell? ⟨b2, 1, none⟩ = some (.slice (some aw) n c0) ∧ w'.cell? (ad.add i) = some (.slice (some a0) q d0) ∧ w'.cell? (aw.add i) = some (.slice A0 q c1)) (ds := []) #[false, false, false, false, false, false, false, false, false, false, false, false] (by kernel_rfl) rfl rfl ⟨y1, y2, hx, hcw⟩ (fun hHeld => ?_)
      refine pure_ (i := 0) (N := (some 33)) (v := ?_) (a' := ?_) #[true, false, false, false, false, false, false, false, false, false, false, false] rfl rfl (by kernel_rfl) (fun _ _ _ h => h) (Or.inl ⟨by rfl, ?_⟩) ?_ ?_
      rotate_left
      · intro w'
        go_simp
        with_reducible rfl
      rotate_left
      · simp only [Act.put, List.setIfInBounds_toArray, List.set_cons_zero, List.set_cons_succ, i64_w, i32_w]
        rfl
      refine take_ (i := 1) (N := (some 34)) (v := ?_) (a' := ?_) #[true, true, false, false, false, false, false, false, false, false, false, false] rfl rfl (by kernel_rfl) (fun _ _ _ h => h) (Or.inl ⟨by rfl, ?_⟩) hHeld ?_ ?_
      rotate_left
      · rintro w' ⟨s0, s1, s2, s3⟩
        go_simp
        with_reducible rfl
      rotate_left
      · simp only [Act.put, List.setIfInBounds_toArray, List.set_cons_zero, List.set_cons_succ, i64_w, i32_w]
        rfl
      refine pure_ (i := 2) (N := (some 35)) (v := ?_) (a' := ?_) #[true, true, true, false, false, false, false, false, false, false, false, false] rfl rfl (by kernel_rfl) (fun _ _ _ h => h) (Or.inl ⟨by rfl, ?_⟩) ?_ ?_
      rotate_left
      · intro w'
        go_simp
        with_reducible rfl
      rotate_left
      · simp only [Act.put, List.setIfInBounds_toArray, List.set_cons_zero, List.set_cons_succ, i64_w, i32_w]
        rfl
      refine pure_ (i := 3) (N := (some 36)) (v := ?_) (a' := ?_) #[true, true, true, true, false, false, false, false, false, false, false, false] rfl rfl (by kernel_rfl) (fun _ _ _ h => h) (Or.inl ⟨by rfl, ?_⟩) ?_ ?_
      rotate_left
      · intro w'
        go_simp
        with_reducible rfl
      rotate_left
      · simp only [Act.put, List.setIfInBounds_toArray, List.set_cons_zero, List.set_cons_succ, i64_w, i32_w]
        rfl
      refine take_ (i := 4) (N := (some 37)) (v := ?_) (a' := ?_) #[true, true, true, true, true, false, false, false, false, false, false, false] rfl rfl (by kernel_rfl) (fun _ _ _ h => h) (Or.inl ⟨by rfl, ?_⟩) hHeld ?_ ?_
      rotate_left
      · rintro w' ⟨s0, s1, s2, s3⟩
        go_simp
        with_reducible rfl
      rotate_left
      · simp only [Act.put, List.setIfInBounds_toArray, List.set_cons_zero, List.set_cons_succ, i64_w, i32_w]
        rfl
      refine pure_ (i := 5) (N := (some 38)) (v := ?_) (a' := ?_) #[true, true, true, true, true, true, false, false, false, false, false, false] rfl rfl (by kernel_rfl) (fun _ _ _ h => h) (Or.inl ⟨by rfl, ?_⟩) ?_ ?_
      rotate_left
      · intro w'
        go_simp
        with_reducible rfl
      rotate_left
      · simp only [Act.put, List.setIfInBounds_toArray, List.set_cons_zero, List.set_cons_succ, i64_w, i32_w]
        rfl
      refine take_ (i := 6) (N := (some 39)) (v := ?_) (a' := ?_) #[true, true, true, true, true, true, true, false, false, false, false, false] rfl rfl (by kernel_rfl) (fun _ _ _ h => h) (Or.inl ⟨by rfl, ?_⟩) hHeld ?_ ?_
      rotate_left
      · rintro w' ⟨s0, s1, s2, s3⟩
        go_simp
        with_reducible rfl
      rotate_left
      · simp only [Act.put, List.setIfInBounds_toArray, List.set_cons_zero, List.set_cons_succ, i64_w, i32_w]
        rfl
      refine pure_ (i := 7) (N := (some 40)) (v := ?_) (a' := ?_) #[true, true, true, true, true, true, true, true, false, false, false, false] rfl rfl (by kernel_rfl) (fun _ _ _ h => h) (Or.inl ⟨by rfl, ?_⟩) ?_ ?_
      rotate_left
      · intro w'
        go_simp
        with_reducible rfl
      rotate_left
      · simp only [Act.put, List.setIfInBounds_toArray, List.set_cons_zero, List.set_cons_succ, i64_w, i32_w]
        rfl
      refine pure_ (i := 8) (N := (some 41)) (v := ?_) (a' := ?_) #[true, true, true, true, true, true, true, true, true, false, false, false] rfl rfl (by kernel_rfl) (fun _ _ _ h => h) (Or.inl ⟨by rfl, ?_⟩) ?_ ?_
      rotate_left
      · intro w'
        go_simp
        with_reducible rfl
      rotate_left
      · simp only [Act.put, List.setIfInBounds_toArray, List.set_cons_zero, List.set_cons_succ, i64_w, i32_w]
        rfl
      refine take_ (i := 9) (N := (some 42)) (v := ?_) (a' := ?_) #[true, true, true, true, true, true, true, true, true, true, false, false] rfl rfl (by kernel_rfl) (fun _ _ _ h => h) (Or.inl ⟨by rfl, ?_⟩) hHeld ?_ ?_
      rotate_left
      · rintro w' ⟨s0, s1, s2, s3⟩
        go_simp
        with_reducible rfl
      rotate_left
      · simp only [Act.put, List.setIfInBounds_toArray, List.set_cons_zero, List.set_cons_succ, i64_w, i32_w]
        rfl
      refine one_ (i := 10) (N := (some 43)) #[true, true, true, true, true, true, true, true, true, true, true, false] rfl rfl (by kernel_rfl) (by decide) (fun K hK => ?_)
      refine goes_ Try.func29 (by kernel_rfl) rfl #[.slice (some a0) q d0, .slice A0 q c1] (by rfl) rfl rfl (by (try simp only [List.map_toArray, List.map_cons, List.map_nil]); first | done | rfl) ?_
      refine (HKI.out _ (below_drew (Below.refl _ _))).mono ?_
      rintro e w2 ⟨rfl, hb⟩
      refine ⟨_, rfl, ?_⟩
      have hb' := below_then (below_drew (Below.refl wr.heap.size wr)) (Nat.le_refl _) hb
      have z1 : w2.cell? ⟨b1, 1, none⟩ = some (.slice (some ad) n c) := pw_cell_below hb' y1
      have z2 : w2.cell? ⟨b2, 1, none⟩ = some (.slice (some aw) n c0) := pw_cell_below hb' y2
      have z3 : w2.cell? (ad.add i) = some (.slice (some a0) q d0) := pw_cell_below hb' hx
      have z4 : w2.cell? (aw.add i) = some (.slice A0 q c1) := pw_cell_below hb' hcw
      have HB2 := Aside0.mk (below_then HB.out HB.out.size hb')
      clear hb hb'
      refine hK.out _ _ ⟨z1, z2, z3, z4⟩ (fun hHeld => ?_)
      clear hK K
      refine norm_ (a' := ?_) ?_ ?_
      rotate_left
      · show Act.put _ (some 43) _ = _
        simp only [Act.put, List.setIfInBounds_toArray, List.set_cons_zero, List.set_cons_succ, i64_w, i32_w]
        rfl
      refine pure_ (i := 11) (N := (some 44)) (v := ?_) (a' := ?_) #[true, true, true, true, true, true, true, true, true, true, true, true] rfl rfl (by kernel_rfl) (fun _ _ _ h => h) (Or.inl ⟨by rfl, ?_⟩) ?_ ?_
      rotate_left
      · intro w'
        go_simp
        with_reducible rfl
      rotate_left
      · simp only [Act.put, List.setIfInBounds_toArray, List.set_cons_zero, List.set_cons_succ, i64_w, i32_w]
        rfl
      refine done_ (by kernel_rfl) ?_
      try go_wp2
      go_roundw
      case rel => exact ⟨i + 1, by go_num, by omega, HB2⟩
      case measure => simp [intOf]; omega
    · obtain rfl : i = n := by omega
      have hdi : decide (i < i) = false := decide_eq_false (by omega)
      have hdj : decide ((i : Int) < (i : Int)) = false := decide_eq_false (by omega)
      go_wp2
      go_ret
      exact ⟨rfl, HBW.out.trans (HB.out.mono HBW.out.size)⟩

end Go.Proofs.Ythhmjfjkbmmcaaa
-- written by a program of this session's own (gprint.py), after the kit's print
namespace Go.Proofs.Ythhmjfjkbmmcaaa.GCO
open Go.RowKit Go.Proofs.YthhmjfjkbmmcaaaW.PrintWords Go.Proofs.YthhmjfjkbmmcaaaW.PrintLast Go.Proofs.YthhmjfjkbmmcaaaW.PrintMore
attribute [local go_sem] max2_int min2_int max_two min_two max_three min_three max_four min_four   -- for this text's walks alone
set_option linter.unusedVariables false
set_option linter.unusedSimpArgs false

/-! ### trestlelaw19_sameGone: function 11 -/
def trestlelaw19_sameGone.l0 : Nat → List (S29) → List (S29) → Int → Option (Bool)
  | 0, _, _, _ => none
  | k + 1, x0, x1, x5 => if x5 < (x0.length : Int) then (if 0 ≤ x5 then (if x5 < (x1.length : Int) then (if ((rd_T29 x0 x5).f0) = ((rd_T29 x1 x5).f0) then ((trestlebook_SameClauses.f k ((rd_T29 x0 x5).f1) ((rd_T29 x1 x5).f1)).bind fun t163 => (if t163 = true then (trestlelaw19_sameGone.l0 k x0 x1 (wrap64 (x5 + 1))) else (some false))) else (some false)) else (none)) else (none)) else (some true)
def trestlelaw19_sameGone.f (k : Nat) (l0 : List (S29)) (l1 : List (S29)) : Option (Bool) := if (l0.length : Int) = (l1.length : Int) then (trestlelaw19_sameGone.l0 k l0 l1 0) else (some false)
set_option maxHeartbeats 8000000 in
set_option maxRecDepth 100000 in
theorem trestlelaw19_sameGone.calls (k : Nat) (A0 : Option Addr) (c0 : Nat) (l0 : List (S29)) (A1 : Option Addr) (c1 : Nat) (l1 : List (S29)) (r : Bool) (w : World) (hr0 : Kd.C k29 w A0 l0.length l0) (hc0 : l0.length ≤ c0) (hr1 : Kd.C k29 w A1 l1.length l1) (hc1 : l1.length ≤ c1) (h : trestlelaw19_sameGone.f k l0 l1 = some r) :
    Calls Try.prog 11 #[.slice A0 l0.length c0, .slice A1 l1.length c1] w fun e w' => e = .returned (.bool r) ∧ Drawn0 w w' := by
  have HR0 := Aside0.mk hr0
  have HC0 := Aside0.mk hc0
  clear hr0 hc0
  have HR1 := Aside0.mk hr1
  have HC1 := Aside0.mk hc1
  clear hr1 hc1
  have H : (if (l0.length : Int) = (l1.length : Int) then (trestlelaw19_sameGone.l0 k l0 l1 0) else (some false)) = some r := h
  clear h
  by_cases c3 : (l0.length : Int) = (l1.length : Int)
  · rw [if_pos c3] at H
    have c3b0 : ((l0.length : Int) == (l1.length : Int)) = true := beq_iff_eq.mpr c3
    have c3b1 : ((l0.length : Int) != (l1.length : Int)) = false := bne_eq_false_iff_eq.mpr c3
    have c3b2 : (l0.length == l1.length) = true := by first | simpa using c3 | (simp at c3 ⊢; omega)
    clear c3
    have H' := Aside0.mk H
    clear H
    go_enter Try.func11, Try.ntmps11
    go_wp2
    repeat (go_quiet (fail); try go_wp2)
    go_loopg [5] k (fun kq v5 w' => ∃ (x5_1 : Int), v5 = .int .i64 x5_1 ∧ Aside0 (trestlelaw19_sameGone.l0 kq l0 l1 x5_1 = some r) ∧ Aside0 (kq ≤ k) ∧ Drawn0 w w')
    case atStart => exact ⟨(0), (by first | rfl | (simp; done) | (simp [*]; done)), H', ⟨Nat.le_refl _⟩, by repeat (first | exact Drawn0.refl _ | apply Drawn0.step)⟩
    case round =>
      clear H'
      try clear c1
      try clear p2
      try clear c3
      try clear c3b0
      try clear c3b1
      try clear c3b2
      obtain ⟨x5_1, rfl, HA, HK1, ⟨m1, rfl⟩⟩ := hrel
      cases gk with
      | zero => exact absurd HA.out (by simp [trestlelaw19_sameGone.l0])
      | succ k1 =>
        have H := HA.out
        clear HA
        simp only [trestlelaw19_sameGone.l0] at H
        by_cases c4 : x5_1 < (l0.length : Int)
        · rw [if_pos c4] at H
          have c4b0 : decide (x5_1 < (l0.length : Int)) = true := decide_eq_true c4
          clear c4
          by_cases c5 : 0 ≤ x5_1
          · rw [if_pos c5] at H
            have c5b0 : decide (0 ≤ x5_1) = true := decide_eq_true c5
            clear c5
            by_cases c6 : x5_1 < (l1.length : Int)
            · rw [if_pos c6] at H
              have c6b0 : decide (x5_1 < (l1.length : Int)) = true := decide_eq_true c6
              clear c6
              by_cases c7 : ((rd_T29 l0 x5_1).f0) = ((rd_T29 l1 x5_1).f0)
              · rw [if_pos c7] at H
                have c7b0 : (((rd_T29 l0 x5_1).f0) == ((rd_T29 l1 x5_1).f0)) = true := beq_iff_eq.mpr c7
                have c7b1 : (((rd_T29 l0 x5_1).f0) != ((rd_T29 l1 x5_1).f0)) = false := bne_eq_false_iff_eq.mpr c7
                clear c7
                replace H := Option.bind_eq_some_iff.mp H
                obtain ⟨t163, A80, H⟩ := H
                replace H : (if t163 = true then (trestlelaw19_sameGone.l0 k1 l0 l1 (wrap64 (x5_1 + 1))) else (some false)) = some r := H
                have A8 := Aside0.mk A80
                clear A80
                by_cases c9 : t163 = true
                · subst c9
                  have H1 : (trestlelaw19_sameGone.l0 k1 l0 l1 (wrap64 (x5_1 + 1))) = some r := by rw [if_pos rfl] at H; exact H
                  clear H
                  have H := H1
                  clear H1
                  have H' := Aside0.mk H
                  clear H
                  have p159 : 0 ≤ (x5_1 : Int) := of_decide_eq_true (by first | (with_reducible assumption) | assumption)
                  have q159 : x5_1 < (l0.length : Int) := of_decide_eq_true (by first | (with_reducible assumption) | assumption)
                  obtain ⟨ad159, A159_1, c159_1, e159, hx159_0, hx159_1, hl159_1, hi159_1⟩ := at_T29 HR0.out x5_1 p159 q159
                  cases e159
                  have HR159_1 := Aside0.mk hi159_1
                  have HC159_1 := Aside0.mk hl159_1
                  clear hi159_1 hl159_1
                  replace p159 := eq_true p159
                  replace q159 := eq_true q159
                  have p160 : 0 ≤ (x5_1 : Int) := of_decide_eq_true (by first | (with_reducible assumption) | assumption)
                  have q160 : x5_1 < (l1.length : Int) := of_decide_eq_true (by first | (with_reducible assumption) | assumption)
                  obtain ⟨ad160, A160_1, c160_1, e160, hx160_0, hx160_1, hl160_1, hi160_1⟩ := at_T29 HR1.out x5_1 p160 q160
                  cases e160
                  have HR160_1 := Aside0.mk hi160_1
                  have HC160_1 := Aside0.mk hl160_1
                  clear hi160_1 hl160_1
                  replace p160 := eq_true p160
                  replace q160 := eq_true q160
                  have p161 : 0 ≤ (x5_1 : Int) := of_decide_eq_true (by first | (with_reducible assumption) | assumption)
                  have q161 : x5_1 < (l0.length : Int) := of_decide_eq_true (by first | (with_reducible assumption) | assumption)
                  obtain ⟨ad161, A161_1, c161_1, e161, hx161_0, hx161_1, hl161_1, hi161_1⟩ := at_T29 HR0.out x5_1 p161 q161
                  obtain rfl : ad159 = ad161 := (by injection e161)
                  have HR161_1 := Aside0.mk hi161_1
                  have HC161_1 := Aside0.mk hl161_1
                  clear hi161_1 hl161_1
                  replace p161 := eq_true p161
                  replace q161 := eq_true q161
                  have ea_ := Option.some.inj (hx159_1.symm.trans hx161_1)
                  injection ea_ with ea_ en_ ec_
                  subst ea_
                  subst ec_
                  clear en_
                  have p162 : 0 ≤ (x5_1 : Int) := of_decide_eq_true (by first | (with_reducible assumption) | assumption)
                  have q162 : x5_1 < (l1.length : Int) := of_decide_eq_true (by first | (with_reducible assumption) | assumption)
                  obtain ⟨ad162, A162_1, c162_1, e162, hx162_0, hx162_1, hl162_1, hi162_1⟩ := at_T29 HR1.out x5_1 p162 q162
                  obtain rfl : ad160 = ad162 := (by injection e162)
                  have HR162_1 := Aside0.mk hi162_1
                  have HC162_1 := Aside0.mk hl162_1
                  clear hi162_1 hl162_1
                  replace p162 := eq_true p162
                  replace q162 := eq_true q162
                  have ea_ := Option.some.inj (hx160_1.symm.trans hx162_1)
                  injection ea_ with ea_ en_ ec_
                  subst ea_
                  subst ec_
                  clear en_
                  go_wp2_with (first | (go_at_call 27; (with_reducible refine (trestlebook_SameClauses.calls k1 _ _ ((rd_T29 l0 x5_1).f1) _ _ ((rd_T29 l1 x5_1).f1) true _ ?side1 ?side2 ?side3 ?side4 A8.out).mono ?_); (case side1 => repeat (first | exact HR161_1.out | (with_reducible refine Kd.C_alloc ?_ _) | (with_reducible refine Kd.C_drewN ?_ _) | (with_reducible refine Kd.C_drew ?_))); (case side2 => exact HC161_1.out); (case side3 => repeat (first | exact HR162_1.out | (with_reducible refine Kd.C_alloc ?_ _) | (with_reducible refine Kd.C_drewN ?_ _) | (with_reducible refine Kd.C_drew ?_))); (case side4 => exact HC162_1.out); rintro e w' ⟨rfl, ⟨nd, rfl⟩⟩; (try first | exact ⟨rfl, _, World.drewN_drewN _ _ _⟩ | exact ⟨rfl, _, Eq.trans (World.drewN_drewN _ _ _) (congrArg (World.drewN _) (Nat.add_assoc _ _ _))⟩)))
                  repeat (go_quiet (first | (go_at_call 27; (with_reducible refine (trestlebook_SameClauses.calls k1 _ _ ((rd_T29 l0 x5_1).f1) _ _ ((rd_T29 l1 x5_1).f1) true _ ?side1 ?side2 ?side3 ?side4 A8.out).mono ?_); (case side1 => repeat (first | exact HR161_1.out | (with_reducible refine Kd.C_alloc ?_ _) | (with_reducible refine Kd.C_drewN ?_ _) | (with_reducible refine Kd.C_drew ?_))); (case side2 => exact HC161_1.out); (case side3 => repeat (first | exact HR162_1.out | (with_reducible refine Kd.C_alloc ?_ _) | (with_reducible refine Kd.C_drewN ?_ _) | (with_reducible refine Kd.C_drew ?_))); (case side4 => exact HC162_1.out); rintro e w' ⟨rfl, ⟨nd, rfl⟩⟩; (try first | exact ⟨rfl, _, World.drewN_drewN _ _ _⟩ | exact ⟨rfl, _, Eq.trans (World.drewN_drewN _ _ _) (congrArg (World.drewN _) (Nat.add_assoc _ _ _))⟩))); try go_wp2_with (first | (go_at_call 27; (with_reducible refine (trestlebook_SameClauses.calls k1 _ _ ((rd_T29 l0 x5_1).f1) _ _ ((rd_T29 l1 x5_1).f1) true _ ?side1 ?side2 ?side3 ?side4 A8.out).mono ?_); (case side1 => repeat (first | exact HR161_1.out | (with_reducible refine Kd.C_alloc ?_ _) | (with_reducible refine Kd.C_drewN ?_ _) | (with_reducible refine Kd.C_drew ?_))); (case side2 => exact HC161_1.out); (case side3 => repeat (first | exact HR162_1.out | (with_reducible refine Kd.C_alloc ?_ _) | (with_reducible refine Kd.C_drewN ?_ _) | (with_reducible refine Kd.C_drew ?_))); (case side4 => exact HC162_1.out); rintro e w' ⟨rfl, ⟨nd, rfl⟩⟩; (try first | exact ⟨rfl, _, World.drewN_drewN _ _ _⟩ | exact ⟨rfl, _, Eq.trans (World.drewN_drewN _ _ _) (congrArg (World.drewN _) (Nat.add_assoc _ _ _))⟩))))
                  go_roundg k1
                  case measure => have := HK1.out; omega
                  case rel => exact ⟨(wrap64 (x5_1 + 1)), (by first | rfl | (simp; done) | (simp [*]; done)), H', ⟨by have := HK1.out; omega⟩, by repeat (first | exact Drawn0.refl _ | apply Drawn0.step)⟩
                · replace c9 := Bool.eq_false_iff.mpr c9
                  subst c9
                  have H1 : (some false) = some r := by rw [if_neg (show ¬ (false = true) by decide)] at H; exact H
                  clear H
                  have H := H1
                  clear H1
                  obtain rfl := Option.some.inj H
                  have p159 : 0 ≤ (x5_1 : Int) := of_decide_eq_true (by first | (with_reducible assumption) | assumption)
                  have q159 : x5_1 < (l0.length : Int) := of_decide_eq_true (by first | (with_reducible assumption) | assumption)
                  obtain ⟨ad159, A159_1, c159_1, e159, hx159_0, hx159_1, hl159_1, hi159_1⟩ := at_T29 HR0.out x5_1 p159 q159
                  cases e159
                  have HR159_1 := Aside0.mk hi159_1
                  have HC159_1 := Aside0.mk hl159_1
                  clear hi159_1 hl159_1
                  replace p159 := eq_true p159
                  replace q159 := eq_true q159
                  have p160 : 0 ≤ (x5_1 : Int) := of_decide_eq_true (by first | (with_reducible assumption) | assumption)
                  have q160 : x5_1 < (l1.length : Int) := of_decide_eq_true (by first | (with_reducible assumption) | assumption)
                  obtain ⟨ad160, A160_1, c160_1, e160, hx160_0, hx160_1, hl160_1, hi160_1⟩ := at_T29 HR1.out x5_1 p160 q160
                  cases e160
                  have HR160_1 := Aside0.mk hi160_1
                  have HC160_1 := Aside0.mk hl160_1
                  clear hi160_1 hl160_1
                  replace p160 := eq_true p160
                  replace q160 := eq_true q160
                  have p161 : 0 ≤ (x5_1 : Int) := of_decide_eq_true (by first | (with_reducible assumption) | assumption)
                  have q161 : x5_1 < (l0.length : Int) := of_decide_eq_true (by first | (with_reducible assumption) | assumption)
                  obtain ⟨ad161, A161_1, c161_1, e161, hx161_0, hx161_1, hl161_1, hi161_1⟩ := at_T29 HR0.out x5_1 p161 q161
                  obtain rfl : ad159 = ad161 := (by injection e161)
                  have HR161_1 := Aside0.mk hi161_1
                  have HC161_1 := Aside0.mk hl161_1
                  clear hi161_1 hl161_1
                  replace p161 := eq_true p161
                  replace q161 := eq_true q161
                  have ea_ := Option.some.inj (hx159_1.symm.trans hx161_1)
                  injection ea_ with ea_ en_ ec_
                  subst ea_
                  subst ec_
                  clear en_
                  have p162 : 0 ≤ (x5_1 : Int) := of_decide_eq_true (by first | (with_reducible assumption) | assumption)
                  have q162 : x5_1 < (l1.length : Int) := of_decide_eq_true (by first | (with_reducible assumption) | assumption)
                  obtain ⟨ad162, A162_1, c162_1, e162, hx162_0, hx162_1, hl162_1, hi162_1⟩ := at_T29 HR1.out x5_1 p162 q162
                  obtain rfl : ad160 = ad162 := (by injection e162)
                  have HR162_1 := Aside0.mk hi162_1
                  have HC162_1 := Aside0.mk hl162_1
                  clear hi162_1 hl162_1
                  replace p162 := eq_true p162
                  replace q162 := eq_true q162
                  have ea_ := Option.some.inj (hx160_1.symm.trans hx162_1)
                  injection ea_ with ea_ en_ ec_
                  subst ea_
                  subst ec_
                  clear en_
                  go_wp2_with (first | (go_at_call 27; (with_reducible refine (trestlebook_SameClauses.calls k1 _ _ ((rd_T29 l0 x5_1).f1) _ _ ((rd_T29 l1 x5_1).f1) false _ ?side1 ?side2 ?side3 ?side4 A8.out).mono ?_); (case side1 => repeat (first | exact HR161_1.out | (with_reducible refine Kd.C_alloc ?_ _) | (with_reducible refine Kd.C_drewN ?_ _) | (with_reducible refine Kd.C_drew ?_))); (case side2 => exact HC161_1.out); (case side3 => repeat (first | exact HR162_1.out | (with_reducible refine Kd.C_alloc ?_ _) | (with_reducible refine Kd.C_drewN ?_ _) | (with_reducible refine Kd.C_drew ?_))); (case side4 => exact HC162_1.out); rintro e w' ⟨rfl, ⟨nd, rfl⟩⟩; (try first | exact ⟨rfl, _, World.drewN_drewN _ _ _⟩ | exact ⟨rfl, _, Eq.trans (World.drewN_drewN _ _ _) (congrArg (World.drewN _) (Nat.add_assoc _ _ _))⟩)))
                  repeat (go_quiet (first | (go_at_call 27; (with_reducible refine (trestlebook_SameClauses.calls k1 _ _ ((rd_T29 l0 x5_1).f1) _ _ ((rd_T29 l1 x5_1).f1) false _ ?side1 ?side2 ?side3 ?side4 A8.out).mono ?_); (case side1 => repeat (first | exact HR161_1.out | (with_reducible refine Kd.C_alloc ?_ _) | (with_reducible refine Kd.C_drewN ?_ _) | (with_reducible refine Kd.C_drew ?_))); (case side2 => exact HC161_1.out); (case side3 => repeat (first | exact HR162_1.out | (with_reducible refine Kd.C_alloc ?_ _) | (with_reducible refine Kd.C_drewN ?_ _) | (with_reducible refine Kd.C_drew ?_))); (case side4 => exact HC162_1.out); rintro e w' ⟨rfl, ⟨nd, rfl⟩⟩; (try first | exact ⟨rfl, _, World.drewN_drewN _ _ _⟩ | exact ⟨rfl, _, Eq.trans (World.drewN_drewN _ _ _) (congrArg (World.drewN _) (Nat.add_assoc _ _ _))⟩))); try go_wp2_with (first | (go_at_call 27; (with_reducible refine (trestlebook_SameClauses.calls k1 _ _ ((rd_T29 l0 x5_1).f1) _ _ ((rd_T29 l1 x5_1).f1) false _ ?side1 ?side2 ?side3 ?side4 A8.out).mono ?_); (case side1 => repeat (first | exact HR161_1.out | (with_reducible refine Kd.C_alloc ?_ _) | (with_reducible refine Kd.C_drewN ?_ _) | (with_reducible refine Kd.C_drew ?_))); (case side2 => exact HC161_1.out); (case side3 => repeat (first | exact HR162_1.out | (with_reducible refine Kd.C_alloc ?_ _) | (with_reducible refine Kd.C_drewN ?_ _) | (with_reducible refine Kd.C_drew ?_))); (case side4 => exact HC162_1.out); rintro e w' ⟨rfl, ⟨nd, rfl⟩⟩; (try first | exact ⟨rfl, _, World.drewN_drewN _ _ _⟩ | exact ⟨rfl, _, Eq.trans (World.drewN_drewN _ _ _) (congrArg (World.drewN _) (Nat.add_assoc _ _ _))⟩))))
                  go_ret
                  exact ⟨by first | rfl | (simp; done) | (simp [*]; done), by repeat (first | exact Drawn0.refl _ | apply Drawn0.step)⟩
              · rw [if_neg c7] at H
                have c7b0 : (((rd_T29 l0 x5_1).f0) == ((rd_T29 l1 x5_1).f0)) = false := beq_eq_false_iff_ne.mpr c7
                have c7b1 : (((rd_T29 l0 x5_1).f0) != ((rd_T29 l1 x5_1).f0)) = true := bne_iff_ne.mpr c7
                obtain rfl := Option.some.inj H
                have p159 : 0 ≤ (x5_1 : Int) := of_decide_eq_true (by first | (with_reducible assumption) | assumption)
                have q159 : x5_1 < (l0.length : Int) := of_decide_eq_true (by first | (with_reducible assumption) | assumption)
                obtain ⟨ad159, A159_1, c159_1, e159, hx159_0, hx159_1, hl159_1, hi159_1⟩ := at_T29 HR0.out x5_1 p159 q159
                cases e159
                have HR159_1 := Aside0.mk hi159_1
                have HC159_1 := Aside0.mk hl159_1
                clear hi159_1 hl159_1
                replace p159 := eq_true p159
                replace q159 := eq_true q159
                have p160 : 0 ≤ (x5_1 : Int) := of_decide_eq_true (by first | (with_reducible assumption) | assumption)
                have q160 : x5_1 < (l1.length : Int) := of_decide_eq_true (by first | (with_reducible assumption) | assumption)
                obtain ⟨ad160, A160_1, c160_1, e160, hx160_0, hx160_1, hl160_1, hi160_1⟩ := at_T29 HR1.out x5_1 p160 q160
                cases e160
                have HR160_1 := Aside0.mk hi160_1
                have HC160_1 := Aside0.mk hl160_1
                clear hi160_1 hl160_1
                replace p160 := eq_true p160
                replace q160 := eq_true q160
                go_wp2
                repeat (go_quiet (fail); try go_wp2)
                go_ret
                exact ⟨by first | rfl | (simp; done) | (simp [*]; done), by repeat (first | exact Drawn0.refl _ | apply Drawn0.step)⟩
            · rw [if_neg c6] at H
              exact absurd H (by simp)
          · rw [if_neg c5] at H
            exact absurd H (by simp)
        · rw [if_neg c4] at H
          have c4b0 : decide (x5_1 < (l0.length : Int)) = false := decide_eq_false c4
          clear c4
          obtain rfl := Option.some.inj H
          go_wp2
          repeat (go_quiet (fail); try go_wp2)
          go_ret
          exact ⟨by first | rfl | (simp; done) | (simp [*]; done), by repeat (first | exact Drawn0.refl _ | apply Drawn0.step)⟩
  · rw [if_neg c3] at H
    have c3b0 : ((l0.length : Int) == (l1.length : Int)) = false := beq_eq_false_iff_ne.mpr c3
    have c3b1 : ((l0.length : Int) != (l1.length : Int)) = true := bne_iff_ne.mpr c3
    have c3b2 : (l0.length == l1.length) = false := by first | simpa using c3 | (simp at c3 ⊢; omega)
    obtain rfl := Option.some.inj H
    go_enter Try.func11, Try.ntmps11
    go_wp2
    repeat (go_quiet (fail); try go_wp2)
    go_ret
    exact ⟨by first | rfl | (simp; done) | (simp [*]; done), by repeat (first | exact Drawn0.refl _ | apply Drawn0.step)⟩

end Go.Proofs.Ythhmjfjkbmmcaaa.GCO
/- The law CleanOuts, walked. -/
namespace Go.Proofs.Ythhmjfjkbmmcaaa
open Go.RowKit Go.Proofs.YthhmjfjkbmmcaaaW.PrintWords Go.Proofs.YthhmjfjkbmmcaaaW.PrintLast Go.Proofs.YthhmjfjkbmmcaaaW.PrintMore
set_option linter.unusedVariables false
set_option linter.unusedSimpArgs false

/-- A formula's box. -/
def Box (w : World) (b : Nat) (v : Int) (A : Option Addr) (n c : Nat) : Prop := w.heap[b]? = some (.cells #[.int .i64 v, .slice A n c] 24 (0, 0))
theorem Box.new (w : World) (v : Int) (A : Option Addr) (n c : Nat) : Box (w.alloc (.cells #[.int .i64 v, .slice A n c] 24)) w.heap.size v A n c := heap_alloc_new w _
theorem Box.old {w : World} {b : Nat} {v : Int} {A : Option Addr} {n c : Nat} (h : Box w b v A n c) (o : Obj) : Box (w.alloc o) b v A n c := blk_alloc h o
theorem Box.below {w w' : World} {b : Nat} {v : Int} {A : Option Addr} {n c : Nat} (h : Box w b v A n c) (hb : Below w.heap.size w w') : Box w' b v A n c := blk_below h hb
theorem Box.made {w w' : World} {v : Int} {A : Option Addr} {n c : Nat} (hb : Below (w.alloc (.cells #[.int .i64 v, .slice A n c] 24)).heap.size (w.alloc (.cells #[.int .i64 v, .slice A n c] 24)) w') : Box w' w.heap.size v A n c := (Box.new w v A n c).below hb
theorem Box.c0 {w : World} {b : Nat} {v : Int} {A : Option Addr} {n c : Nat} (h : Box w b v A n c) : w.cell? ⟨b, 0, none⟩ = some (.int .i64 v) := blk_cell h 0
theorem Box.c1 {w : World} {b : Nat} {v : Int} {A : Option Addr} {n c : Nat} (h : Box w b v A n c) : w.cell? ⟨b, 1, none⟩ = some (.slice A n c) := blk_cell h 1

/-- The law where the formula is large. -/
theorem outs_large (vv x : Int) (A : Option Addr) (n c : Nat) (w : World) (hL : ∀ W, Below w.heap.size w W → Calls Try.prog 5 #[.agg #[.int .i64 vv, .slice A n c]] W fun e w' => e = .returned (.bool true) ∧ Below W.heap.size W w') :
    Calls Try.prog 3 #[.agg #[.int .i64 vv, .slice A n c], .int .i64 x] w fun e w' => e = .returned (.bool true) ∧ Below w.heap.size w w' := by
  have HL := Aside0.mk hL
  have hx := heap_alloc_new w (.cells #[.int .i64 vv, .slice A n c] 24)
  have x0 := blk_cell hx 0
  have x1 := blk_cell hx 1
  clear hL hx
  go_enter Try.func3, Try.ntmps3
  go_wp2_with fail
  refine (HL.out _ (below_alloc (Below.refl _ _) _)).mono ?_
  rintro e w1 ⟨rfl, hb1⟩
  have HB1 := Aside0.mk (below_then (below_alloc (Below.refl w.heap.size w) _) (below_alloc (Below.refl w.heap.size w) _).size hb1)
  clear hb1 x0 x1
  go_wp2_with fail
  refine (works_calls _).mono ?_
  rintro e w2 ⟨rfl, hb2⟩
  have HB2 := Aside0.mk (below_then HB1.out HB1.out.size hb2)
  clear hb2
  go_wp2
  go_ret
  exact ⟨rfl, HB2.out⟩

theorem gone_C {W : World} {g : Nat} {b : Int} {Y : Option Addr} {q c : Nat} {ys : List (List Int)} (h : W.heap[g]? = some (.cells #[.int .i64 b, .slice Y q c] 29 (0, 0))) (hq : q = ys.length) (hc : q ≤ c) (hC : Kd.C kClause W Y q ys) : Kd.C GCO.k29 W (some ⟨g, 0, none⟩) 1 [⟨b, ys⟩] := by
  subst hq
  refine ⟨rfl, by omega, fun _ => ⟨⟨g, 0, none⟩, rfl, fun j p hj => ?_⟩⟩
  rcases j with _ | j
  · obtain rfl : (⟨b, ys⟩ : GCO.S29) = p := Option.some.inj hj
    refine ⟨[.int .i64 b, .slice Y ys.length c], rfl, GCO.k29_mk W ⟨b, ys⟩ hc hC, fun i u hu => ?_⟩
    have := blk_cell h i
    rcases i with _ | _ | i
    · exact (blk_cell h 0).trans hu
    · exact (blk_cell h 1).trans hu
    · simp at hu
  · simp at hj
theorem sameGone_f (K : Nat) (b : Int) (ys : List (List Int)) (h1 : GCO.trestlebook_SameClauses.f (K + 1) ys ys = some true) : GCO.trestlelaw19_sameGone.f (K + 1 + 1) [⟨b, ys⟩] [⟨b, ys⟩] = some true := by
  have h2 : GCO.rd_T29 [⟨b, ys⟩] 0 = ⟨b, ys⟩ := rfl
  have hw : wrap64 (0 + 1) = 1 := by first | rfl | (unfold wrap64; omega) | (unfold wrap64; decide)
  unfold GCO.trestlelaw19_sameGone.f
  rw [if_pos rfl]
  unfold GCO.trestlelaw19_sameGone.l0
  rw [if_pos (by simp), if_pos (by omega), if_pos (by simp), if_pos rfl, h2, h1, hw]
  simp only [Option.bind_some, if_true]
  unfold GCO.trestlelaw19_sameGone.l0
  rw [if_neg (by simp)]
theorem sameGone_refl {W : World} {g g' : Nat} {b : Int} {Y Y' : Option Addr} {q c c' : Nat} {ys : List (List Int)} (h : W.heap[g]? = some (.cells #[.int .i64 b, .slice Y q c] 29 (0, 0))) (h' : W.heap[g']? = some (.cells #[.int .i64 b, .slice Y' q c'] 29 (0, 0))) (hq : q = ys.length) (hc : q ≤ c) (hc' : q ≤ c') (hC : Kd.C kClause W Y q ys) (hC' : Kd.C kClause W Y' q ys) (hl : ys.length ≤ 4398046511104) (hs : ∀ l ∈ ys, l.length ≤ 1099511627776) :
    Calls Try.prog 11 #[.slice (some ⟨g, 0, none⟩) 1 1, .slice (some ⟨g', 0, none⟩) 1 1] W fun e w' => e = .returned (.bool true) ∧ Below W.heap.size W w' := by
  obtain ⟨K, hK⟩ : ∃ K, K = ys.length + 1099511627777 := ⟨_, rfl⟩
  refine (GCO.trestlelaw19_sameGone.calls (K + 1 + 1) (some ⟨g, 0, none⟩) 1 [⟨b, ys⟩] (some ⟨g', 0, none⟩) 1 [⟨b, ys⟩] true W (gone_C h hq hc hC) (Nat.le_refl 1) (gone_C h' hq hc' hC') (Nat.le_refl 1) (sameGone_f K b ys ?_)).mono fun e w' h => ⟨h.1, h.2.below⟩
  have hf := sameClausesO_loop ys 1099511627777 (by omega) (fun l hl => by have := hs l hl; omega) (by omega)
  unfold GCO.trestlebook_SameClauses.f
  rw [if_pos rfl]
  exact hf (K + 1) 0 (Nat.zero_le _) (by omega)

/-- A block of a formula or of what goes stays. -/
theorem Spd.blk {w w' : World} {B : Nat} {q : Nat → Prop} (h : Spd w w' B q) {b t : Nat} {cells : Array Value} (hb : w.heap[b]? = some (.cells cells t (0, 0))) (ht : t ≠ 3) (hq : ¬ q b) : w'.heap[b]? = some (.cells cells t (0, 0)) := (h.2.1 b cells t _ hb ht hq).trans hb
/-- The block of a row that may be spoiled is one of clauses. -/
theorem SpoR.blk {w : World} {B : Nat} {G : Option Addr} {n : Nat} (h : SpoR w B G n) (hn : 0 < n) {ad : Addr} (e : G = some ad) : B ≤ ad.block ∧ ∃ cells, w.heap[ad.block]? = some (.cells cells 43 (0, 0)) := by
  rcases h with h | ⟨g, cells, h1, h2, h3, _⟩
  · omega
  · obtain rfl : (⟨g, 0, none⟩ : Addr) = ad := Option.some.inj (h1.symm.trans e)
    exact ⟨h2, cells, h3⟩

set_option maxRecDepth 100000 in
set_option maxHeartbeats 8000000 in
theorem outs_walk (vv x a b g : Int) (A : Option Addr) (n c p q : Nat) (ls xs ys : List (List Int)) (w : World) (hn : n = ls.length) (hr : Kd.C kClause w A n ls) (hc : n ≤ c) (hl : n ≤ 1099511627776) (hs : ∀ l ∈ ls, l.length ≤ 1099511627776)
    (hL : ∀ W, Below w.heap.size w W → Calls Try.prog 5 #[.agg #[.int .i64 vv, .slice A n c]] W fun e w' => e = .returned (.bool false) ∧ Below W.heap.size W w')
    (hO : ∀ W A' c', Kd.C kClause W A' n ls → n ≤ c' → Calls Try.prog 8 #[.agg #[.int .i64 vv, .slice A' n c'], .int .i64 x] W fun e w' => ∃ X d Y c2, e = .returned (.tuple #[.agg #[.int .i64 a, .slice X p d], .agg #[.int .i64 b, .slice Y q c2], .int .i64 g]) ∧ p ≤ d ∧ q ≤ c2 ∧ Kd.C kClause w' X p xs ∧ Kd.C kClause w' Y q ys ∧ SpoR w' W.heap.size X p ∧ SpoR w' W.heap.size Y q ∧ (∀ ad ad', X = some ad → Y = some ad' → ad.block ≠ ad'.block) ∧ Below W.heap.size W w')
    (hO2 : ∀ W, Kd.C kClause W A n ls → Calls Try.prog 9 #[.agg #[.int .i64 vv, .slice A n c], .int .i64 x] W fun e w' => ∃ X d Y c2, e = .returned (.tuple #[.agg #[.int .i64 a, .slice X p d], .agg #[.int .i64 b, .slice Y q c2], .int .i64 g]) ∧ p ≤ d ∧ q ≤ c2 ∧ Kd.C kClause w' X p xs ∧ Kd.C kClause w' Y q ys ∧ Below W.heap.size W w')
    (hp : p = xs.length) (hq : q = ys.length) (hlx : xs.length ≤ 4398046511104) (hsx : ∀ l ∈ xs, l.length ≤ 1099511627776) (hly : ys.length ≤ 4398046511104) (hsy : ∀ l ∈ ys, l.length ≤ 1099511627776) :
    Calls Try.prog 3 #[.agg #[.int .i64 vv, .slice A n c], .int .i64 x] w fun e w' => e = .returned (.bool true) ∧ Below w.heap.size w w' := by
  have KL := Aside0.mk hL
  have KO := Aside0.mk hO
  have KO2 := Aside0.mk hO2
  have HR := Aside0.mk hr
  have HN := Aside0.mk hn
  have HS := Aside0.mk hs
  have HPX := Aside0.mk (And.intro hp (And.intro hlx hsx))
  have HQY := Aside0.mk (And.intro hq (And.intro hly hsy))
  have X1 : Box (w.alloc (.cells #[.int .i64 vv, .slice A n c] 24)) w.heap.size vv A n c := Box.new w vv A n c
  have HX := Aside0.mk X1
  have x0 := X1.c0
  have x1 := X1.c1
  have HB0 := Aside0.mk (below_alloc (Below.refl w.heap.size w) (.cells #[.int .i64 vv, .slice A n c] 24))
  have hgg : (g != g) = false := bne_self_eq_false g
  clear hL hO hO2 hr hn hs hp hlx hsx hq hly hsy X1
  go_enter Try.func3, Try.ntmps3
  go_wp2_with fail
  refine (KL.out _ HB0.out).mono ?_
  rintro e w1 ⟨rfl, hb1⟩
  have HB1 := Aside0.mk (below_then HB0.out HB0.out.size hb1)
  have X1 := HX.out.below hb1
  clear x0 x1 HX
  have HX := Aside0.mk X1
  have x0 := X1.c0
  have x1 := X1.c1
  clear hb1 X1
  go_wp2_with fail
  refine (lendCnf_calls vv A n c ls _ HN.out (Kd.C_below HR.out HB1.out) hc hl HS.out).mono ?_
  rintro e w2 ⟨g0, cap, rfl, hcap, hCL, hb2⟩
  have HB2 := Aside0.mk (below_then HB1.out HB1.out.size hb2)
  have HCL := Aside0.mk hCL
  have X1 := HX.out.below hb2
  clear x0 x1 HX
  have HX := Aside0.mk X1
  have hy := Box.new w2 vv (some ⟨g0, 0, none⟩) n cap
  have y0 := hy.c0
  have y1 := hy.c1
  clear hb2 X1 hCL hy
  obtain ⟨w3, hw3⟩ : ∃ w3, w3 = w2.alloc (.cells #[.int .i64 vv, .slice (some ⟨g0, 0, none⟩) n cap] 24) := ⟨_, rfl⟩
  have HW3 := Aside0.mk hw3
  have HBX := Aside0.mk (show Box w3 w.heap.size vv A n c by rw [hw3]; exact HX.out.old _)
  have HBL := Aside0.mk (show Box w3 w2.heap.size vv (some ⟨g0, 0, none⟩) n cap by rw [hw3]; exact Box.new w2 vv _ n cap)
  have HCL3 := Aside0.mk (show Kd.C kLend w3 (some ⟨g0, 0, none⟩) (n + 1) (ls.map some ++ [none]) by rw [hw3]; exact Kd.C_below HCL.out (below_alloc (Below.refl _ _) _))
  have HR3 := Aside0.mk (show Kd.C kClause w3 A n ls by rw [hw3]; exact Kd.C_below HR.out (below_alloc HB2.out _))
  have HB3 := Aside0.mk (show Below w.heap.size w w3 by rw [hw3]; exact below_alloc HB2.out _)
  clear HX HCL HB0 HB1 HB2 hw3
  go_wp2_with fail
  rw [← HW3.out]
  refine (KO.out _ (some ⟨g0, 0, none⟩) cap (lend_clause HN.out HCL3.out) (by omega)).mono ?_
  rintro e w4 ⟨X, d, Y, c2, rfl, hpd, hqc, hCX, hCY, hSX, hSY, hdis, hb4⟩
  have HB4 := Aside0.mk hb4
  have HCX := Aside0.mk hCX
  have HCY := Aside0.mk hCY
  have HSX := Aside0.mk hSX
  have HSY := Aside0.mk hSY
  have HDIS := Aside0.mk hdis
  obtain ⟨w5, hw5⟩ : ∃ w5, w5 = (w4.alloc (.cells #[.int .i64 a, .slice X p d] 24)).alloc (.cells #[.int .i64 b, .slice Y q c2] 29) := ⟨_, rfl⟩
  have HW5 := Aside0.mk hw5
  have hb45 : Below w4.heap.size w4 w5 := by rw [hw5]; exact below_alloc (below_alloc (Below.refl _ _) _) _
  have HB45 := Aside0.mk hb45
  have HB5 := Aside0.mk (below_then hb4 hb4.size hb45)
  have HXA := Aside0.mk (show w5.heap[w4.heap.size]? = some (.cells #[.int .i64 a, .slice X p d] 24 (0, 0)) by rw [hw5]; exact blk_alloc (heap_alloc_new w4 _) _)
  have HXG := Aside0.mk (show w5.heap[w4.heap.size + 1]? = some (.cells #[.int .i64 b, .slice Y q c2] 29 (0, 0)) by rw [hw5]; exact heap_new2o w4 _ _)
  have x0 : ((w4.alloc (.cells #[.int .i64 a, .slice X p d] 24)).alloc (.cells #[.int .i64 b, .slice Y q c2] 29)).cell? ⟨w.heap.size, 0, none⟩ = some (.int .i64 vv) := by rw [← hw5]; exact (Box.below HBX.out HB5.out).c0
  have x1 : ((w4.alloc (.cells #[.int .i64 a, .slice X p d] 24)).alloc (.cells #[.int .i64 b, .slice Y q c2] 29)).cell? ⟨w.heap.size, 1, none⟩ = some (.slice A n c) := by rw [← hw5]; exact (Box.below HBX.out HB5.out).c1
  clear y0 y1 hb4 hCX hCY hSX hSY hdis hb45 hw5
  go_wp2_with fail
  rw [← HW5.out]
  refine (KO2.out _ (Kd.C_below HR3.out HB5.out)).mono ?_
  rintro e w6 ⟨X', d', Y', c3, rfl, hpd', hqc', hCX', hCY', hb6⟩
  have HB6 := Aside0.mk hb6
  have HCX' := Aside0.mk hCX'
  have HCY' := Aside0.mk hCY'
  obtain ⟨w7, hw7⟩ : ∃ w7, w7 = (w6.alloc (.cells #[.int .i64 a, .slice X' p d'] 24)).alloc (.cells #[.int .i64 b, .slice Y' q c3] 29) := ⟨_, rfl⟩
  have HW7 := Aside0.mk hw7
  have hb67 : Below w6.heap.size w6 w7 := by rw [hw7]; exact below_alloc (below_alloc (Below.refl _ _) _) _
  have HB67 := Aside0.mk hb67
  have HB57 := Aside0.mk (below_then hb6 hb6.size hb67)
  have HYA := Aside0.mk (show w7.heap[w6.heap.size]? = some (.cells #[.int .i64 a, .slice X' p d'] 24 (0, 0)) by rw [hw7]; exact blk_alloc (heap_alloc_new w6 _) _)
  have HYG := Aside0.mk (show w7.heap[w6.heap.size + 1]? = some (.cells #[.int .i64 b, .slice Y' q c3] 29 (0, 0)) by rw [hw7]; exact heap_new2o w6 _ _)
  have x2 : ((w6.alloc (.cells #[.int .i64 a, .slice X' p d'] 24)).alloc (.cells #[.int .i64 b, .slice Y' q c3] 29)).cell? ⟨w4.heap.size, 0, none⟩ = some (.int .i64 a) := by rw [← hw7]; exact blk_cell (blk_below HXA.out HB57.out) 0
  have x3 : ((w6.alloc (.cells #[.int .i64 a, .slice X' p d'] 24)).alloc (.cells #[.int .i64 b, .slice Y' q c3] 29)).cell? ⟨w4.heap.size, 1, none⟩ = some (.slice X p d) := by rw [← hw7]; exact blk_cell (blk_below HXA.out HB57.out) 1
  have x4 : ((w6.alloc (.cells #[.int .i64 a, .slice X' p d'] 24)).alloc (.cells #[.int .i64 b, .slice Y' q c3] 29)).cell? ⟨w6.heap.size, 0, none⟩ = some (.int .i64 a) := by rw [← hw7]; exact blk_cell HYA.out 0
  have x5 : ((w6.alloc (.cells #[.int .i64 a, .slice X' p d'] 24)).alloc (.cells #[.int .i64 b, .slice Y' q c3] 29)).cell? ⟨w6.heap.size, 1, none⟩ = some (.slice X' p d') := by rw [← hw7]; exact blk_cell HYA.out 1
  clear x0 x1 hb6 hCX' hCY' hb67 hw7
  go_wp2_with fail
  rw [← HW7.out]
  refine (sameCnfO_refl a p X X' d d' xs w7 HPX.out.1 (Kd.C_below HCX.out (below_then HB45.out HB45.out.size HB57.out)) hpd (Kd.C_below HCX'.out HB67.out) hpd' HPX.out.2.1 HPX.out.2.2).mono ?_
  rintro e w8 ⟨rfl, hb8⟩
  have HB8 := Aside0.mk hb8
  have HB58 := Aside0.mk (below_then HB57.out HB57.out.size hb8)
  have HXG8 := Aside0.mk (blk_below HXG.out (below_then HB57.out HB57.out.size hb8))
  have HYG8 := Aside0.mk (blk_below HYG.out hb8)
  have x6 := blk_cell HXG8.out 0
  have x7 := blk_cell HXG8.out 1
  have x8 := blk_cell (blk_alloc HYG8.out (.cells #[.int .i64 b, .slice Y q c2] 29)) 0
  have x9 := blk_cell (blk_alloc HYG8.out (.cells #[.int .i64 b, .slice Y q c2] 29)) 1
  clear x2 x3 x4 x5 hb8
  go_wp2_with fail
  refine (sameGone_refl (g := w8.heap.size) (g' := w8.heap.size + 1) (blk_alloc (heap_alloc_new w8 _) _) (heap_new2o w8 _ _) HQY.out.1 hqc hqc' (Kd.C_below (Kd.C_below HCY.out (below_then HB45.out HB45.out.size HB58.out)) (below_alloc (below_alloc (Below.refl _ _) _) _)) (Kd.C_below (Kd.C_below HCY'.out (below_then HB67.out HB67.out.size HB8.out)) (below_alloc (below_alloc (Below.refl _ _) _) _)) HQY.out.2.1 HQY.out.2.2).mono ?_
  rintro e w10 ⟨rfl, hb10⟩
  have h810 := below_then (below_alloc (below_alloc (Below.refl w8.heap.size w8) (.cells #[.int .i64 b, .slice Y q c2] 29)) (.cells #[.int .i64 b, .slice Y' q c3] 29)) (below_alloc (below_alloc (Below.refl w8.heap.size w8) (.cells #[.int .i64 b, .slice Y q c2] 29)) (.cells #[.int .i64 b, .slice Y' q c3] 29)).size hb10
  have h510 := below_then HB58.out HB58.out.size h810
  have HB410 := Aside0.mk (below_then HB45.out HB45.out.size h510)
  have HXA10 := Aside0.mk (blk_below HXA.out h510)
  have HXG10 := Aside0.mk (blk_below HXG.out h510)
  have x0 := blk_cell HXA10.out 0
  have x1 := blk_cell HXA10.out 1
  clear x6 x7 x8 x9 hb10 h810 h510
  have HSP10 := Aside0.mk (HSX.out.spd (Spd.below (q := fun _ => False) HB4.out.size HB410.out) (fun _ _ h => h))
  have HSQ10 := Aside0.mk (HSY.out.spd (Spd.below (q := fun _ => False) HB4.out.size HB410.out) (fun _ _ h => h))
  have HW310 := Aside0.mk (below_then HB4.out HB4.out.size HB410.out)
  go_wp2_with fail
  refine (spoilCnf_calls a X p d (-7) w3.heap.size w10 HSP10.out HW310.out.size).mono ?_
  rintro e w11 ⟨rfl, hs⟩
  have HXG11 := Aside0.mk (hs.blk HXG10.out (by decide) (fun h => by
    obtain ⟨h0, ad, e, hk⟩ := h
    obtain ⟨_, cells, hc⟩ := HSP10.out.blk h0 e
    rw [← hk, HXG10.out] at hc
    injection hc with hc
    injection hc with _ hc _
    revert hc
    decide))
  have HSQ11 := Aside0.mk (HSQ10.out.spd hs (fun ad' e' h => by
    obtain ⟨h0, ad, e, hk⟩ := h
    exact HDIS.out ad ad' e e' hk.symm))
  have HW311 := Aside0.mk (HW310.out.trans hs.1)
  have y0 := blk_cell HXG11.out 0
  have y1 := blk_cell HXG11.out 1
  clear x0 x1 hs
  go_wp2_with fail
  refine (spoilCnf_calls 0 Y q c2 (-8) w3.heap.size w11 HSQ11.out HW311.out.size).mono ?_
  rintro e w12 ⟨rfl, hs⟩
  have HW312 := Aside0.mk (HW311.out.trans hs.1)
  have x0 := (Box.below HBX.out HW312.out).c0
  have x1 := (Box.below HBX.out HW312.out).c1
  have x2 := (Box.below HBL.out HW312.out).c0
  have x3 := (Box.below HBL.out HW312.out).c1
  clear y0 y1 hs
  go_wp2_with fail
  refine (keptCnf_calls vv ⟨g0, 0, none⟩ A n cap c ls w12 HN.out (Kd.C_below HCL3.out HW312.out) hcap (Kd.C_below HR3.out HW312.out) hc hl HS.out).mono ?_
  rintro e w13 ⟨rfl, hb13⟩
  have HW313 := Aside0.mk (below_then HW312.out HW312.out.size hb13)
  clear x0 x1 x2 x3 hb13
  go_wp2_with fail
  refine (works_calls _).mono ?_
  rintro e w14 ⟨rfl, hb14⟩
  have HW314 := Aside0.mk (below_then HW313.out HW313.out.size hb14)
  clear hb14
  go_wp2
  go_ret
  exact ⟨rfl, below_then HB3.out HB3.out.size HW314.out⟩

end Go.Proofs.Ythhmjfjkbmmcaaa
/- The printed programs of the answer by definition, closed: copies, the check. -/
namespace Go.Proofs.Ythhmjfjkbmmcaaa
open Go.RowKit Go.Proofs.YthhmjfjkbmmcaaaW.PrintWords Go.Proofs.YthhmjfjkbmmcaaaW.PrintLast Go.Proofs.YthhmjfjkbmmcaaaW.PrintMore
set_option linter.unusedVariables false
set_option linter.unusedSimpArgs false

theorem copyInts_f (l : List Int) (h : l.length ≤ 1099511627776) : GCO.trestlebook_CopyInts.f l = some l := by
  unfold GCO.trestlebook_CopyInts.f
  simp only [Option.bind_some, List.length_nil, List.nil_append]
  rw [if_pos (by omega)]
theorem copy_loop (v : Int) (ls : List (List Int)) (hl : ls.length ≤ 4398046511104) (hs : ∀ l ∈ ls, l.length ≤ 1099511627776) : ∀ k i, i ≤ ls.length → ls.length < k + i → GCO.trestlebook_CopyCnf.l0 k (i : Int) v ls v (ls.take i) = some (v, ls) := by
  intro k
  induction k with
  | zero => intro i h1 h2; omega
  | succ k ih =>
    intro i h1 h2
    unfold GCO.trestlebook_CopyCnf.l0
    by_cases hlt : i < ls.length
    · have hr : GCO.rd_L1 ls (i : Int) = ls[i] := by simp [GCO.rd_L1, hlt]
      rw [if_pos (by omega), if_pos (by omega), hr, copyInts_f _ (hs _ (List.getElem_mem hlt))]
      simp only [Option.bind_some]
      rw [if_pos (by rw [List.length_take]; omega), show wrap64 ((i : Int) + 1) = ((i + 1 : Nat) : Int) from by rw [wrap64]; omega, ← ih (i + 1) hlt (by omega), List.take_add_one, List.getElem?_eq_getElem hlt]
      rfl
    · obtain rfl : i = ls.length := by omega
      rw [if_neg (by omega), List.take_length]
theorem copied_f (v : Int) (ls x : List (List Int)) (hl : x.length ≤ 4398046511104) (hs : ∀ l ∈ x, l.length ≤ 1099511627776) : ∃ k, GCO.trestleref19_copied.f k v ls x = some (v, x) := by
  refine ⟨x.length + 1, ?_⟩
  unfold GCO.trestleref19_copied.f GCO.trestlebook_CopyCnf.f
  have := copy_loop v x hl hs (x.length + 1) 0 (Nat.zero_le _) (by omega)
  rw [List.take_zero] at this
  rw [show (0 : Int) = ((0 : Nat) : Int) from rfl, this]
  rfl

theorem lits_loop (v : Int) (hv0 : 0 ≤ v) (hv1 : v ≤ 262144) (xs : List Int) (hl : xs.length ≤ 16384) : ∀ k i, i ≤ xs.length → xs.length < k + i → GCO.trestleref14_Lits.l0 k xs v (i : Int) = some (if (xs.drop i).any (badLit v) then 141 else 0) := by
  intro k
  induction k with
  | zero => intro i h1 h2; omega
  | succ k ih =>
    intro i h1 h2
    unfold GCO.trestleref14_Lits.l0
    by_cases hlt : i < xs.length
    · have hr : rd xs (i : Int) = xs[i] := by simp [rd, hlt]
      have hw : wrap64 (-v) = -v := by rw [wrap64]; omega
      rw [if_pos (by omega), if_pos (by omega), hr, hw, List.drop_eq_getElem_cons hlt, List.any_cons]
      by_cases c1 : xs[i] = 0
      · rw [if_pos c1, show badLit v xs[i] = true by simp [badLit, c1]]; rfl
      · rw [if_neg c1]
        by_cases c2 : xs[i] > v
        · rw [if_pos c2, show badLit v xs[i] = true by simp [badLit, c2]]; rfl
        · rw [if_neg c2]
          by_cases c3 : xs[i] < -v
          · rw [if_pos c3, show badLit v xs[i] = true by simp [badLit, c3]]; rfl
          · rw [if_neg c3, show badLit v xs[i] = false by simp [badLit, c1, c2, c3], Bool.false_or, show wrap64 ((i : Int) + 1) = ((i + 1 : Nat) : Int) from by rw [wrap64]; omega]
            exact ih (i + 1) hlt (by omega)
    · obtain rfl : i = xs.length := by omega
      rw [if_neg (by omega), List.drop_length]
      rfl
theorem lits_f (v : Int) (hv0 : 0 ≤ v) (hv1 : v ≤ 262144) (xs : List Int) {k : Nat} (hk : 16384 < k) : GCO.trestleref14_Lits.f k xs v = some (if xs.length > 16384 then 2 else if xs.any (badLit v) then 141 else 0) := by
  unfold GCO.trestleref14_Lits.f
  by_cases h : xs.length > 16384
  · rw [if_pos (by omega), if_pos h]
  · rw [if_neg (by omega), if_neg h]
    exact lits_loop v hv0 hv1 xs (by omega) k 0 (Nat.zero_le _) (by omega)
theorem check_loop (v : Int) (hv0 : 0 ≤ v) (hv1 : v ≤ 262144) (ls : List (List Int)) (hl : ls.length ≤ 524288) : ∀ k i, i ≤ ls.length → ls.length + 16385 < k + i → ∃ j, GCO.trestleref14_Check.l0 k (i : Int) v ls = some (j, chkFrom v (ls.drop i)) := by
  intro k
  induction k with
  | zero => intro i h1 h2; omega
  | succ k ih =>
    intro i h1 h2
    unfold GCO.trestleref14_Check.l0
    by_cases hlt : i < ls.length
    · have hr : GCO.rd_L1 ls (i : Int) = ls[i] := by simp [GCO.rd_L1, hlt]
      rw [if_pos (by omega), if_pos (by omega), hr, lits_f v hv0 hv1 _ (by omega), List.drop_eq_getElem_cons hlt]
      simp only [Option.bind_some, chkFrom]
      by_cases c1 : ls[i].length > 16384
      · rw [if_pos c1, if_pos c1, if_neg (by decide)]
        exact ⟨_, rfl⟩
      · rw [if_neg c1, if_neg c1]
        by_cases c2 : (ls[i].any (badLit v)) = true
        · rw [if_pos c2, if_pos c2, if_neg (by decide)]
          exact ⟨_, rfl⟩
        · rw [if_neg c2, if_neg c2, if_pos rfl, show wrap64 ((i : Int) + 1) = ((i + 1 : Nat) : Int) from by rw [wrap64]; omega]
          exact ih (i + 1) hlt (by omega)
    · obtain rfl : i = ls.length := by omega
      rw [if_neg (by omega), List.drop_length]
      exact ⟨0, rfl⟩
theorem check_f (v : Int) (ls : List (List Int)) {k : Nat} (hk : 600000 < k) : ∃ j, GCO.trestleref14_Check.f k v ls = some (j, chk v ls) := by
  obtain ⟨k, rfl⟩ : ∃ k', k = k' + 1 := ⟨k - 1, by omega⟩
  have hj : ∀ b, GCO.trestleref14_Check.j0 (k + 1) b v ls = (if b = true then some (0, 1) else if (ls.length : Int) > 524288 then some (0, 2) else GCO.trestleref14_Check.l0 k 0 v ls) := fun b => by rw [GCO.trestleref14_Check.j0]
  unfold GCO.trestleref14_Check.f chk
  by_cases h1 : v < 0
  · rw [if_pos h1, if_pos (.inl h1), hj, if_pos rfl]
    exact ⟨0, rfl⟩
  · rw [if_neg h1, hj]
    by_cases h2 : v > 262144
    · rw [if_pos (c := v < 0 ∨ v > 262144) (.inr h2), if_pos (decide_eq_true h2)]
      exact ⟨0, rfl⟩
    · rw [if_neg (c := v < 0 ∨ v > 262144) (by omega), if_neg (by simpa using h2)]
      by_cases h3 : ls.length > 524288
      · rw [if_pos (by omega), if_pos h3]
        exact ⟨0, rfl⟩
      · rw [if_neg (by omega), if_neg h3]
        exact check_loop v (by omega) (by omega) ls (by omega) k 0 (Nat.zero_le _) (by omega)

end Go.Proofs.Ythhmjfjkbmmcaaa
/- The printed program of clean.out, closed. -/
namespace Go.Proofs.Ythhmjfjkbmmcaaa
open Go.RowKit Go.Proofs.YthhmjfjkbmmcaaaW.PrintWords Go.Proofs.YthhmjfjkbmmcaaaW.PrintLast Go.Proofs.YthhmjfjkbmmcaaaW.PrintMore
open GCS
set_option linter.unusedVariables false
set_option linter.unusedSimpArgs false

theorem wrap_succ (i : Nat) (h : i ≤ 4398046511104) : wrap64 ((i : Int) + 1) = ((i + 1 : Nat) : Int) := by unfold wrap64; omega
theorem out_l0 (v : Int) (hv : LitOk v) (ls : List (List Int)) (hg : ∀ l ∈ ls, Good l) (hl : ls.length ≤ 4398046511104) (m : Nat) : ∀ d i, i + d = ls.length → clean_out.l0 (m + d + 1) v (restv (ls.take i) v) (withv (ls.take i) v) (agnv (ls.take i) v) ls (ls.length : Int) (i : Int) v (gonev (ls.take i) v) = clean_out.l1 m v (restv ls v) (agnv ls v) (withv ls v) ((withv ls v).length : Int) 0 v (gonev ls v) := by
  intro d
  induction d with
  | zero =>
    intro i hi
    obtain rfl : i = ls.length := by omega
    rw [clean_out.l0, if_neg (by omega), List.take_length]
  | succ d ih =>
    intro i hi
    have hlt : i < ls.length := by omega
    have hr : rd_L1 ls (i : Int) = ls[i] := by simp [rd_L1, hlt]
    have hn : wrap64 (-v) = -v := by obtain ⟨_, _, _⟩ := hv; unfold wrap64; omega
    have hgl := List.getElem?_eq_getElem hlt
    have hgd := (hg _ (List.getElem_mem hlt)).1
    have a1 := filter_take_le (fun c => has c v) ls i
    have a2 := filter_take_le (fun c => !has c v && has c (-v)) ls i
    have a3 := filter_take_le (fun c => !has c v && !has c (-v)) ls i
    have a4 := filter_take_le (fun c => has c v || has c (-v)) ls i
    have t1 : withv (ls.take (i + 1)) v = if has ls[i] v then withv (ls.take i) v ++ [ls[i]] else withv (ls.take i) v := filter_take hgl
    have t2 : agnv (ls.take (i + 1)) v = if (!has ls[i] v && has ls[i] (-v)) then agnv (ls.take i) v ++ [ls[i]] else agnv (ls.take i) v := filter_take hgl
    have t3 : restv (ls.take (i + 1)) v = if (!has ls[i] v && !has ls[i] (-v)) then restv (ls.take i) v ++ [ls[i]] else restv (ls.take i) v := filter_take hgl
    have t4 : gonev (ls.take (i + 1)) v = if (has ls[i] v || has ls[i] (-v)) then gonev (ls.take i) v ++ [ls[i]] else gonev (ls.take i) v := filter_take hgl
    have hc : api_Clause_int.f ls[i] = some ls[i] := if_pos (by omega)
    have := ih (i + 1) (by omega)
    rw [show m + (d + 1) + 1 = (m + d + 1) + 1 by omega, clean_out.l0, if_pos (by omega), if_pos (by omega), if_pos (by omega), hr, clean_has.f, Option.bind_some]
    rw [t1, t2, t3, t4, ← wrap_succ i (by omega)] at this
    cases h1 : has ls[i] v with
    | true =>
      rw [if_pos rfl, if_pos (show (withv (ls.take i) v).length < 5864062014805 from Nat.lt_of_le_of_lt a1 (by omega)), hc, Option.bind_some, if_pos (show (gonev (ls.take i) v).length < 5864062014805 from Nat.lt_of_le_of_lt a4 (by omega))]
      simp only [h1, Bool.not_true, Bool.false_and, Bool.true_or, if_true, Bool.false_eq_true, if_false] at this
      exact this
    | false =>
      rw [if_neg (by decide), hn, clean_has.f, Option.bind_some]
      cases h2 : has ls[i] (-v) with
      | true =>
        rw [if_pos rfl, if_pos (show (agnv (ls.take i) v).length < 5864062014805 from Nat.lt_of_le_of_lt a2 (by omega)), hc, Option.bind_some, if_pos (show (gonev (ls.take i) v).length < 5864062014805 from Nat.lt_of_le_of_lt a4 (by omega))]
        simp only [h1, h2, Bool.not_true, Bool.not_false, Bool.true_and, Bool.false_or, if_true, Bool.false_eq_true, if_false] at this
        exact this
      | false =>
        rw [if_neg (by decide), if_pos (show (restv (ls.take i) v).length < 5864062014805 from Nat.lt_of_le_of_lt a3 (by omega))]
        simp only [h1, h2, Bool.not_true, Bool.not_false, Bool.true_and, Bool.false_or, if_true, Bool.false_eq_true, if_false] at this
        exact this
theorem out_l2 (v : Int) (hv : LitOk v) (B W gone : List (List Int)) (gv : Int) (j : Int) (a : List Int) (ha : Good a) (hB : ∀ l ∈ B, Good l) (hl : B.length ≤ 4398046511104) (m : Nat) : ∀ d t acc, t + d = B.length → acc.length + d ≤ 4398046511104 → clean_out.l2 (m + d + 1) v acc B a W (W.length : Int) j B (B.length : Int) (t : Int) gv gone = match resA v a (B.drop t) acc with
    | none => some ([], 0, [], false)
    | some acc' => clean_out.l1 m v acc' B W (W.length : Int) (wrap64 (j + 1)) gv gone := by
  intro d
  induction d with
  | zero =>
    intro t acc ht hacc
    obtain rfl : t = B.length := by omega
    rw [clean_out.l2, if_neg (by omega), List.drop_length]
    rfl
  | succ d ih =>
    intro t acc ht hacc
    have hlt : t < B.length := by omega
    have hr : rd_L1 B (t : Int) = B[t] := by simp [rd_L1, hlt]
    have hf : lits_Resolve.f a B[t] v = some (resv a B[t] v) := if_pos ⟨ha, hB _ (List.getElem_mem hlt), hv⟩
    rw [show m + (d + 1) + 1 = (m + d + 1) + 1 by omega, clean_out.l2, if_pos (by omega), if_pos (by omega), if_pos (by omega), hr, hf, Option.bind_some, List.drop_eq_getElem_cons hlt, resA, wrap_succ t (by omega)]
    by_cases h1 : (resv a B[t] v).2 = 0
    · rw [if_pos h1, if_neg (c := (resv a B[t] v).2 ≠ 0) (fun h => h h1)]
      by_cases h2 : (resv a B[t] v).1.length > 16384
      · rw [if_pos (c := ((resv a B[t] v).1.length : Int) > 16384) (by omega), if_pos h2]
      · rw [if_neg (c := ((resv a B[t] v).1.length : Int) > 16384) (by omega), if_neg h2, if_pos (by omega)]
        exact ih (t + 1) _ (by omega) (by rw [List.length_append, List.length_singleton]; omega)
    · rw [if_neg h1, if_pos h1]
      exact ih (t + 1) _ (by omega) (by omega)
theorem resA_good (v : Int) (a : List Int) (ha : Good a) : ∀ (B acc acc' : List (List Int)), (∀ l ∈ B, Good l) → (∀ l ∈ acc, Good l) → resA v a B acc = some acc' → (∀ l ∈ acc', Good l) ∧ acc'.length ≤ acc.length + B.length := by
  intro B
  induction B with
  | nil =>
    intro acc acc' _ hacc h
    obtain rfl := Option.some.inj h
    exact ⟨hacc, by simp⟩
  | cons b B ih =>
    intro acc acc' hB hacc h
    have hb := hB b (List.mem_cons_self ..)
    have hB' := fun l hl => hB l (List.mem_cons_of_mem _ hl)
    rw [resA] at h
    split at h
    · obtain ⟨h1, h2⟩ := ih acc acc' hB' hacc h
      exact ⟨h1, by rw [List.length_cons]; omega⟩
    · split at h
      · cases h
      · rename_i h0 h3
        obtain ⟨h1, h2⟩ := ih _ acc' hB' (fun l hl => by
          rcases List.mem_append.1 hl with hl | hl
          · exact hacc l hl
          · obtain rfl := List.mem_singleton.1 hl
            refine ⟨by omega, fun x hx => ?_⟩
            rcases resv_mem hx with h | h
            · exact ha.2 x h
            · exact hb.2 x h) h
        rw [List.length_append, List.length_singleton] at h2
        exact ⟨h1, by rw [List.length_cons]; omega⟩
theorem resB_good (v : Int) (B : List (List Int)) (hB : ∀ l ∈ B, Good l) : ∀ (W acc nx : List (List Int)), (∀ l ∈ W, Good l) → (∀ l ∈ acc, Good l) → resB v B W acc = some nx → (∀ l ∈ nx, Good l) ∧ nx.length ≤ acc.length + W.length * B.length := by
  intro W
  induction W with
  | nil =>
    intro acc nx _ hacc h
    obtain rfl := Option.some.inj h
    exact ⟨hacc, by simp⟩
  | cons a W ih =>
    intro acc nx hW hacc h
    rw [resB] at h
    obtain ⟨acc', h1, h2⟩ := Option.bind_eq_some_iff.1 h
    obtain ⟨g1, g2⟩ := resA_good v a (hW a (List.mem_cons_self ..)) B acc acc' hB hacc h1
    obtain ⟨g3, g4⟩ := ih acc' nx (fun l hl => hW l (List.mem_cons_of_mem _ hl)) g1 h2
    refine ⟨g3, ?_⟩
    rw [List.length_cons, Nat.add_mul, Nat.one_mul]
    omega
def outFuel (b : Nat) : Nat → Nat
  | 0 => 1
  | d + 1 => outFuel b d + b + 1 + 1
theorem out_l1 (v : Int) (hv : LitOk v) (B W gone : List (List Int)) (gv : Int) (hW : ∀ l ∈ W, Good l) (hB : ∀ l ∈ B, Good l) (hl : B.length ≤ 1000000) (hw : W.length ≤ 1000000) : ∀ d j acc, j + d = W.length → (∀ l ∈ acc, Good l) → acc.length + d * B.length ≤ 2199023255552 → clean_out.l1 (outFuel B.length d) v acc B W (W.length : Int) (j : Int) gv gone = match resB v B (W.drop j) acc with
    | none => some ([], 0, [], false)
    | some nx => some (tidyv nx, gv, gone, decide (((tidyv nx).length : Int) ≤ 524288)) := by
  intro d
  induction d with
  | zero =>
    intro j acc hj hacc hal
    obtain rfl : j = W.length := by omega
    rw [outFuel, clean_out.l1, if_neg (by omega), List.drop_length]
    rw [show clean_tidy.f acc = some (tidyv acc) from if_pos ⟨hacc, by omega⟩]
    rfl
  | succ d ih =>
    intro j acc hj hacc hal
    rw [Nat.add_mul, Nat.one_mul] at hal
    have hlt : j < W.length := by omega
    have hr : rd_L1 W (j : Int) = W[j] := by simp [rd_L1, hlt]
    rw [outFuel, clean_out.l1, if_pos (by omega), if_pos (by omega), if_pos (by omega), hr]
    have := out_l2 v hv B W gone gv (j : Int) W[j] (hW _ (List.getElem_mem hlt)) hB (by omega) (outFuel B.length d) B.length 0 acc (by omega) (by omega)
    rw [show ((0 : Nat) : Int) = 0 from rfl] at this
    rw [this, List.drop_zero, List.drop_eq_getElem_cons hlt, resB]
    cases h : resA v W[j] B acc with
    | none => rfl
    | some acc' =>
      obtain ⟨g1, g2⟩ := resA_good v W[j] (hW _ (List.getElem_mem hlt)) B acc acc' hB hacc h
      simp only [Option.bind_some]
      rw [wrap_succ j (by omega)]
      exact ih (j + 1) acc' (by omega) g1 (by omega)
theorem filt_good {p : List Int → Bool} {ls : List (List Int)} (h : ∀ l ∈ ls, Good l) : ∀ l ∈ ls.filter p, Good l := fun l hl => h l (List.mem_filter.1 hl).1
theorem cleanout_f (v : Int) (hv : LitOk v) (ls : List (List Int)) (hg : ∀ l ∈ ls, Good l) (hl : ls.length ≤ 1000000) : ∃ k, clean_out.f k ls v = match outR ls v with
    | none => some ([], 0, [], false)
    | some nx => some (tidyv nx, v, gonev ls v, decide (((tidyv nx).length : Int) ≤ 524288)) := by
  have b1 : (withv ls v).length ≤ ls.length := List.length_filter_le _ _
  have b2 : (agnv ls v).length ≤ ls.length := List.length_filter_le _ _
  have b3 : (restv ls v).length ≤ ls.length := List.length_filter_le _ _
  have b4 : (withv ls v).length * (agnv ls v).length ≤ 1000000 * 1000000 := Nat.mul_le_mul (by omega) (by omega)
  refine ⟨outFuel (agnv ls v).length (withv ls v).length + ls.length + 1, ?_⟩
  have h0 := out_l0 v hv ls hg (by omega) (outFuel (agnv ls v).length (withv ls v).length) ls.length 0 (by omega)
  rw [List.take_zero] at h0
  unfold clean_out.f
  refine Eq.trans h0 ?_
  have h1 := out_l1 v hv (agnv ls v) (withv ls v) (gonev ls v) v (filt_good hg) (filt_good hg) (by omega) (by omega) (withv ls v).length 0 (restv ls v) (by omega) (filt_good hg) (by omega)
  rw [List.drop_zero] at h1
  exact h1

end Go.Proofs.Ythhmjfjkbmmcaaa
