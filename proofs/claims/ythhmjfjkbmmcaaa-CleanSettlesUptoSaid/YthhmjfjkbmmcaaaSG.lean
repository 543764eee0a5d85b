/- CleanSettles returns true for every formula, and leaves it as it was; stated for formulas of bulk at most 1048576. -/
import Derived.Test.YthhmjfjkbmmcaaaSC
import Derived.Test.YthhmjfjkbmmcaaaSE
import Derived.Test.YthhmjfjkbmmcaaaSF
import Derived.Test.YthhmjfjkbmmcaaaSA
import Derived.Test.YthhmjfjkbmmcaaaRows
import Derived.ProofKit
import Derived.OpenShut
import Derived.ChangeOld
import Derived.Deep.Matrix
import Derived.Lib.SmallJoins
import Derived.Carry
import Derived.JoinedCond
/- What the law CleanSettles asks of Tidy, Units, Subsume, Strengthen, SameCnf and large. -/
namespace Go.Proofs.Ythhmjfjkbmmcaaa
open Go.RowKit Go.Proofs.YthhmjfjkbmmcaaaW.PrintWords Go.Proofs.YthhmjfjkbmmcaaaW.PrintLast Go.Proofs.YthhmjfjkbmmcaaaW.PrintMore
open GCS
set_option linter.unusedVariables false
set_option linter.unusedSimpArgs false

theorem okC_len {v : Int} {ls : List (List Int)} (h : ∀ c ∈ ls, OkC v c) : ∀ l ∈ ls, l.length ≤ 1099511627776 := fun l hl => by have := (h l hl).1; omega
theorem litsOf_le : ∀ {v : Int} {ls : List (List Int)}, (∀ c ∈ ls, OkC v c) → litsOf ls ≤ ls.length * 16384
  | v, [], _ => by simp [litsOf]
  | v, c :: ls, h => by
    have h1 := litsOf_le (fun c hc => h c (List.mem_cons_of_mem _ hc) : ∀ c ∈ ls, OkC v c)
    have h2 := (h c (by simp)).1
    simp only [litsOf, List.map_cons, List.sum_cons, List.length_cons] at *
    omega
theorem madeF (a : Int) (l0 ls : List (List Int)) (hl : ls.length ≤ 4398046511104) (hs : ∀ l ∈ ls, l.length ≤ 1099511627776) : clean_made.f (ls.length + 1) a l0 ls = some (a, ls) := by
  unfold clean_made.f
  exact made_loop a ls hl hs (ls.length + 1) 0 (Nat.zero_le _) (by omega)
/-- What a maker hands back: a formula of these clauses. -/
def ResC (v : Int) (n : Nat) (r : List (List Int)) (w : World) (e : Ending) (w' : World) : Prop := ∃ X d, e = .returned (.tuple #[.agg #[.int .i64 v, .slice X n d], .int .i64 0]) ∧ n ≤ d ∧ Kd.C kClause w' X n r ∧ Below w.heap.size w w'
theorem resC_of {v : Int} {r : List (List Int)} {w : World} {e : Ending} {w' : World} (h : ∃ v1_ : Value, e = .returned (.tuple #[.agg #[.int .i64 v, v1_], .int .i64 0]) ∧ Kd.S kClause 43 w' w.heap.size (fun _ => True) v1_ r ∧ Below w.heap.size w w') : ResC v r.length r w e w' := by
  obtain ⟨v1, rfl, hS, hB⟩ := h
  obtain ⟨X, d, rfl⟩ := Kd.R_slice (Kd.S_R hS)
  obtain ⟨_, h2, h3⟩ := Kd.R_reads' (Kd.S_R hS)
  exact ⟨X, d, rfl, h2, h3, hB⟩
theorem tidy_res (v : Int) (A : Option Addr) (n c : Nat) (ls : List (List Int)) (w : World) (hn : n = ls.length) (hf : Kd.C kClause w A n ls) (hc : n ≤ c) (hk : chk v ls = 0) :
    Calls Try.prog 14 #[.agg #[.int .i64 v, .slice A n c]] w (ResC v (tidyv ls).length (tidyv ls) w) := by
  subst hn
  have hg := (chk_good hk).2.2.2
  obtain ⟨_, _, h3, h4⟩ := (chk_ok v ls).1 hk
  have hl := tidyv_length ls
  refine (clean_Tidy.calls ((tidyv ls).length + 1) v A c ls v (tidyv ls) 0 w hf hc ?_).mono fun e w' h => resC_of h
  unfold clean_Tidy.f clean_check.f
  rw [hk, Option.bind_some, if_pos rfl]
  unfold clean_tidy.f
  rw [if_pos ⟨hg, by omega⟩, Option.bind_some, madeF _ _ _ (by omega) (okC_len (okC_tidy h4))]
  rfl
theorem tidy_bad (v : Int) (A : Option Addr) (n c : Nat) (ls : List (List Int)) (w : World) (hn : n = ls.length) (hf : Kd.C kClause w A n ls) (hc : n ≤ c) (hk : chk v ls ≠ 0) :
    Calls Try.prog 14 #[.agg #[.int .i64 v, .slice A n c]] w fun e w' => ∃ X d, e = .returned (.tuple #[.agg #[.int .i64 0, .slice X 0 d], .int .i64 (chk v ls)]) ∧ Below w.heap.size w w' := by
  subst hn
  refine (clean_Tidy.calls 1 v A c ls 0 [] (chk v ls) w hf hc ?_).mono ?_
  · unfold clean_Tidy.f clean_check.f
    rw [Option.bind_some, if_neg hk]
  · rintro e w' ⟨v1, rfl, hS, hB⟩
    obtain ⟨X, d, rfl⟩ := Kd.R_slice (Kd.S_R hS)
    exact ⟨X, d, rfl, hB⟩
theorem subs_res (v : Int) (A : Option Addr) (n c : Nat) (ls : List (List Int)) (w : World) (hn : n = ls.length) (hf : Kd.C kClause w A n ls) (hc : n ≤ c) (hk : chk v ls = 0) :
    Calls Try.prog 16 #[.agg #[.int .i64 v, .slice A n c]] w (ResC v (subv (tidyv ls)).length (subv (tidyv ls)) w) := by
  subst hn
  have hg := (chk_good hk).2.2.2
  obtain ⟨_, _, h3, h4⟩ := (chk_ok v ls).1 hk
  have hl := tidyv_length ls
  have hl2 := (subv_sub (tidyv ls)).length_le
  refine (clean_Subsume.calls ((subv (tidyv ls)).length + 1) v A c ls v (subv (tidyv ls)) 0 w hf hc ?_).mono fun e w' h => resC_of h
  unfold clean_Subsume.f clean_check.f
  rw [hk, Option.bind_some, if_pos rfl]
  unfold clean_tidy.f clean_subsume.f
  rw [if_pos ⟨hg, by omega⟩, Option.bind_some, if_pos ⟨tidyv_good hg, by omega⟩, Option.bind_some, madeF _ _ _ (by omega) (okC_len (fun c hc => okC_tidy h4 c ((subv_sub _).subset hc)))]
  rfl
theorem stren_res (v : Int) (A : Option Addr) (n c : Nat) (ls r : List (List Int)) (w : World) (hn : n = ls.length) (hf : Kd.C kClause w A n ls) (hc : n ≤ c) (hk : chk v ls = 0) (hr : strF (litsOf (tidyv ls) + 2) (tidyv ls) = some r) (ho : ∀ c ∈ r, OkC v c) (hl1 : r.length ≤ 4398046511104) :
    Calls Try.prog 17 #[.agg #[.int .i64 v, .slice A n c]] w (ResC v r.length r w) := by
  subst hn
  have hg := (chk_good hk).2.2.2
  obtain ⟨_, _, h3, h4⟩ := (chk_ok v ls).1 hk
  have hl := tidyv_length ls
  refine (clean_Strengthen.calls (r.length + 1) v A c ls v r 0 w hf hc ?_).mono fun e w' h => resC_of h
  unfold clean_Strengthen.f clean_check.f
  rw [hk, Option.bind_some, if_pos rfl]
  unfold clean_tidy.f clean_strengthen.f
  rw [if_pos ⟨hg, by omega⟩, Option.bind_some, if_pos ⟨tidyv_good hg, by omega⟩, hr, Option.bind_some, madeF _ _ _ hl1 (okC_len ho)]
  rfl
theorem units_res (v : Int) (A : Option Addr) (n c : Nat) (ls r : List (List Int)) (t : List Int) (w : World) (hn : n = ls.length) (hf : Kd.C kClause w A n ls) (hc : n ≤ c) (hk : chk v ls = 0) (hr : unitsF (litsOf (tidyv ls) + 2) (tidyv ls) [] = some (r, t)) (ho : ∀ c ∈ r, OkC v c) (hl1 : r.length ≤ 4398046511104) :
    Calls Try.prog 15 #[.agg #[.int .i64 v, .slice A n c]] w fun e w' => ∃ X d Y dy, e = .returned (.tuple #[.agg #[.int .i64 v, .slice X r.length d], .slice Y t.length dy, .int .i64 0]) ∧ r.length ≤ d ∧ Kd.C kClause w' X r.length r ∧ Kd.C (Kd.int .i64) w' Y t.length t ∧ Below w.heap.size w w' := by
  subst hn
  have hg := (chk_good hk).2.2.2
  obtain ⟨_, _, h3, h4⟩ := (chk_ok v ls).1 hk
  have hl := tidyv_length ls
  have hlt := litsOf_le (okC_tidy h4)
  refine (clean_Units.calls (r.length + 1) v A c ls v r t 0 w hf hc ?_).mono ?_
  · unfold clean_Units.f clean_check.f
    rw [hk, Option.bind_some, if_pos rfl]
    unfold clean_tidy.f clean_units.f
    rw [if_pos ⟨hg, by omega⟩, Option.bind_some, if_pos ⟨tidyv_good hg, by omega, by omega⟩, hr, Option.bind_some, madeF _ _ _ hl1 (okC_len ho)]
    rfl
  · rintro e w' ⟨v1, v2, rfl, hS, hR, hB⟩
    obtain ⟨X, d, rfl⟩ := Kd.R_slice (Kd.S_R hS)
    obtain ⟨_, h2, h3⟩ := Kd.R_reads' (Kd.S_R hS)
    obtain ⟨Y, dy, rfl⟩ := Kd.R_slice hR
    obtain ⟨_, _, h5⟩ := Kd.R_reads' hR
    exact ⟨X, d, Y, dy, rfl, h2, h3, h5, hB⟩

/-! ## SameCnf of two like formulas; large -/
theorem sameInts_loop (xs : List Int) (hl : xs.length ≤ 9223372036854775806) : ∀ k i, i ≤ xs.length → xs.length < k + i → trestlebook_SameInts.l0 k xs xs (i : Int) = some true := by
  intro k
  induction k with
  | zero => intro i h1 h2; omega
  | succ k ih =>
    intro i h1 h2
    unfold trestlebook_SameInts.l0
    by_cases hlt : i < xs.length
    · have hw : wrap64 ((i : Int) + 1) = ((i + 1 : Nat) : Int) := by unfold wrap64; omega
      rw [if_pos (by omega), if_pos (by omega), if_pos (by omega), if_pos rfl, hw]
      exact ih (i + 1) (by omega) (by omega)
    · rw [if_neg (by omega)]
theorem sameInts_refl (xs : List Int) (hl : xs.length ≤ 9223372036854775806) {k : Nat} (hk : xs.length < k) : trestlebook_SameInts.f k xs xs = some true := by
  unfold trestlebook_SameInts.f
  rw [if_pos rfl]
  exact sameInts_loop xs hl k 0 (Nat.zero_le _) (by omega)
theorem sameClauses_loop (ls : List (List Int)) (m : Nat) (hm : m ≤ 9223372036854775806) (hs : ∀ l ∈ ls, l.length < m) (hl : ls.length ≤ 9223372036854775806) : ∀ k i, i ≤ ls.length → ls.length + m < k + i → trestlebook_SameClauses.l0 k ls ls (i : Int) = some true := by
  intro k
  induction k with
  | zero => intro i h1 h2; omega
  | succ k ih =>
    intro i h1 h2
    unfold trestlebook_SameClauses.l0
    by_cases hlt : i < ls.length
    · have hw : wrap64 ((i : Int) + 1) = ((i + 1 : Nat) : Int) := by unfold wrap64; omega
      have hrd : rd_L1 ls (i : Int) = ls[i] := by simp [rd_L1, List.getD_eq_getElem?_getD, List.getElem?_eq_getElem hlt]
      have hm1 := hs _ (List.getElem_mem hlt)
      rw [if_pos (by omega), if_pos (by omega), if_pos (by omega), hrd, sameInts_refl _ (by omega) (by omega), Option.bind_some, if_pos rfl, hw]
      exact ih (i + 1) (by omega) (by omega)
    · rw [if_neg (by omega)]
theorem sameCnf_refl (v : Int) (n : Nat) (A B : Option Addr) (c d : Nat) (ls : List (List Int)) (w : World) (hn : n = ls.length) (h1 : Kd.C kClause w A n ls) (hc : n ≤ c) (h2 : Kd.C kClause w B n ls) (hd : n ≤ d) (hl : ls.length ≤ 4398046511104) (hs : ∀ l ∈ ls, l.length ≤ 1099511627776) :
    Calls Try.prog 10 #[.agg #[.int .i64 v, .slice A n c], .agg #[.int .i64 v, .slice B n d]] w fun e w' => e = .returned (.bool true) ∧ Below w.heap.size w w' := by
  subst hn
  refine trestlebook_SameCnf.calls (ls.length + 1099511627777 + 1) v A c ls v B d ls true w h1 hc h2 hd ?_
  unfold trestlebook_SameCnf.f trestlebook_SameClauses.f
  rw [if_pos rfl, if_pos rfl]
  have := sameClauses_loop ls 1099511627777 (by omega) (fun l hl => by have := hs l hl; omega) (by omega) (ls.length + 1099511627777 + 1) 0 (Nat.zero_le _) (by omega)
  rw [show ((0 : Nat) : Int) = 0 from rfl] at this
  rw [this]
  rfl
theorem large_loop (v : Int) (ls : List (List Int)) (hl : ls.length ≤ 9223372036854775806) : ∀ k i (s : Int), i ≤ ls.length → ls.length < k + i → ∃ b, trestlelaw19_large.l0 k s (i : Int) v ls = some b ∧ (b = false → ls.length ≤ 120) := by
  intro k
  induction k with
  | zero => intro i s h1 h2; omega
  | succ k ih =>
    intro i s h1 h2
    unfold trestlelaw19_large.l0
    by_cases hlt : i < ls.length
    · have hw : wrap64 ((i : Int) + 1) = ((i + 1 : Nat) : Int) := by unfold wrap64; omega
      rw [if_pos (by omega), if_pos (by omega), hw]
      exact ih (i + 1) _ (by omega) (by omega)
    · rw [if_neg (by omega)]
      by_cases h : (ls.length : Int) > 120
      · rw [if_pos h]
        exact ⟨true, rfl, fun h => by cases h⟩
      · rw [if_neg h]
        exact ⟨_, rfl, fun _ => by omega⟩
theorem large_calls (v : Int) (A : Option Addr) (n c : Nat) (ls : List (List Int)) (w : World) (hn : n = ls.length) (hf : Kd.C kClause w A n ls) (hc : n ≤ c) (hl : ls.length ≤ 9223372036854775806) :
    ∃ b, (b = false → ls.length ≤ 120) ∧ ∀ W, Below w.heap.size w W → Calls Try.prog 5 #[.agg #[.int .i64 v, .slice A n c]] W fun e w' => e = .returned (.bool b) ∧ Below W.heap.size W w' := by
  subst hn
  obtain ⟨b, hb, h⟩ := large_loop v ls hl (ls.length + 1) 0 0 (Nat.zero_le _) (by omega)
  exact ⟨b, h, fun W hW => trestlelaw19_large.calls (ls.length + 1) v A c ls b W (Kd.C_below hf hW) hc (by unfold trestlelaw19_large.f; exact hb)⟩

end Go.Proofs.Ythhmjfjkbmmcaaa
/- The law CleanSettles, walked. -/
namespace Go.Proofs.Ythhmjfjkbmmcaaa
open Go.RowKit Go.Proofs.YthhmjfjkbmmcaaaW.PrintWords Go.Proofs.YthhmjfjkbmmcaaaW.PrintLast Go.Proofs.YthhmjfjkbmmcaaaW.PrintMore
open GCS
set_option linter.unusedVariables false
set_option linter.unusedSimpArgs false

/-- A formula's box. -/
def Box (w : World) (b : Nat) (v : Int) (A : Option Addr) (n c : Nat) : Prop := w.heap[b]? = some (.cells #[.int .i64 v, .slice A n c] 24 (0, 0))
theorem Box.new (w : World) (v : Int) (A : Option Addr) (n c : Nat) : Box (w.alloc (.cells #[.int .i64 v, .slice A n c] 24)) w.heap.size v A n c := heap_alloc_new w _
theorem Box.old {w : World} {b : Nat} {v : Int} {A : Option Addr} {n c : Nat} (h : Box w b v A n c) (o : Obj) : Box (w.alloc o) b v A n c := blk_alloc h o
theorem Box.below {w w' : World} {b : Nat} {v : Int} {A : Option Addr} {n c : Nat} (h : Box w b v A n c) (hb : Below w.heap.size w w') : Box w' b v A n c := blk_below h hb
theorem Box.go {w w' : World} {o : Obj} {b : Nat} {v : Int} {A : Option Addr} {n c : Nat} (h : Box w b v A n c) (hb : Below (w.alloc o).heap.size (w.alloc o) w') : Box w' b v A n c := (h.old o).below hb
theorem Box.made {w w' : World} {v : Int} {A : Option Addr} {n c : Nat} (hb : Below (w.alloc (.cells #[.int .i64 v, .slice A n c] 24)).heap.size (w.alloc (.cells #[.int .i64 v, .slice A n c] 24)) w') : Box w' w.heap.size v A n c := (Box.new w v A n c).below hb
theorem Box.c0 {w : World} {b : Nat} {v : Int} {A : Option Addr} {n c : Nat} (h : Box w b v A n c) : w.cell? ⟨b, 0, none⟩ = some (.int .i64 v) := blk_cell h 0
theorem Box.c1 {w : World} {b : Nat} {v : Int} {A : Option Addr} {n c : Nat} (h : Box w b v A n c) : w.cell? ⟨b, 1, none⟩ = some (.slice A n c) := blk_cell h 1
theorem C_go {α : Type} {k : Kd α} {w w' : World} {o : Obj} {A : Option Addr} {n : Nat} {x : List α} (h : Kd.C k w A n x) (hb : Below (w.alloc o).heap.size (w.alloc o) w') : Kd.C k w' A n x := Kd.C_below (Kd.C_below h (below_alloc (Below.refl _ _) o)) hb
theorem C_al {α : Type} {k : Kd α} {w : World} {A : Option Addr} {n : Nat} {x : List α} (h : Kd.C k w A n x) (o : Obj) : Kd.C k (w.alloc o) A n x := Kd.C_below h (below_alloc (Below.refl _ _) o)
theorem B_go {w W w' : World} {o : Obj} (h : Below w.heap.size w W) (hb : Below (W.alloc o).heap.size (W.alloc o) w') : Below w.heap.size w w' := below_then (below_alloc h o) (below_alloc h o).size hb
/-- A number of a row. -/
theorem at_ints {w : World} {A : Option Addr} {n : Nat} {xs : List Int} (h : (Kd.int .i64).C w A n xs) (i : Nat) (hi : i < n) : ∃ ad x, A = some ad ∧ x ∈ xs ∧ w.cell? (ad.add i) = some (.int .i64 x) := by
  have hl : xs.length = n := h.1
  obtain ⟨ad, e, hc⟩ := (row1_ints h).2 (by rw [nums_length]; omega)
  exact ⟨ad, xs[i], e, List.getElem_mem (by omega), hc i _ (by simp [nums])⟩

/-- The law where the formula is large. -/
theorem settles_large (v : Int) (A : Option Addr) (n c : Nat) (w : World) (hL : ∀ W, Below w.heap.size w W → Calls Try.prog 5 #[.agg #[.int .i64 v, .slice A n c]] W fun e w' => e = .returned (.bool true) ∧ Below W.heap.size W w') :
    Calls Try.prog 4 #[.agg #[.int .i64 v, .slice A n c]] w fun e w' => e = .returned (.bool true) ∧ Below w.heap.size w w' := by
  have HL := Aside0.mk hL
  clear hL
  go_enter Try.func4, Try.ntmps4
  go_wp2_with fail
  refine (works_calls _).mono ?_
  rintro e w1 ⟨rfl, hb1⟩
  have X1 := Box.made hb1
  have x0 := X1.c0
  have x1 := X1.c1
  have HB1 := Aside0.mk (B_go (Below.refl w.heap.size w) hb1)
  clear hb1 X1
  go_wp2_with fail
  refine (HL.out _ HB1.out).mono ?_
  rintro e w2 ⟨rfl, hb2⟩
  have HB2 := Aside0.mk (below_then HB1.out HB1.out.size hb2)
  clear hb2 x0 x1
  go_wp2
  go_ret
  exact ⟨rfl, HB2.out⟩

/-- The law where the formula is refused. -/
theorem settles_bad (v k : Int) (A : Option Addr) (n c : Nat) (w : World) (hk : k ≠ 0) (hL : ∀ W, Below w.heap.size w W → Calls Try.prog 5 #[.agg #[.int .i64 v, .slice A n c]] W fun e w' => e = .returned (.bool false) ∧ Below W.heap.size W w')
    (hT : ∀ W, Below w.heap.size w W → Calls Try.prog 14 #[.agg #[.int .i64 v, .slice A n c]] W fun e w' => ∃ X d, e = .returned (.tuple #[.agg #[.int .i64 0, .slice X 0 d], .int .i64 k]) ∧ Below W.heap.size W w') :
    Calls Try.prog 4 #[.agg #[.int .i64 v, .slice A n c]] w fun e w' => e = .returned (.bool true) ∧ Below w.heap.size w w' := by
  have HL := Aside0.mk hL
  have HT := Aside0.mk hT
  have hkb : (k != 0) = true := by rw [bne_iff_ne]; exact hk
  clear hL hT hk
  go_enter Try.func4, Try.ntmps4
  go_wp2_with fail
  refine (works_calls _).mono ?_
  rintro e w1 ⟨rfl, hb1⟩
  have X1 := Box.made hb1
  have x0 := X1.c0
  have x1 := X1.c1
  have HX1 := Aside0.mk X1
  have HB1 := Aside0.mk (B_go (Below.refl w.heap.size w) hb1)
  clear hb1 X1
  go_wp2_with fail
  refine (HL.out _ HB1.out).mono ?_
  rintro e w2 ⟨rfl, hb2⟩
  have HB2 := Aside0.mk (below_then HB1.out HB1.out.size hb2)
  have X2 := HX1.out.below hb2
  clear x0 x1
  have x0 := X2.c0
  have x1 := X2.c1
  clear hb2 X2
  go_wp2_with fail
  refine (HT.out _ HB2.out).mono ?_
  rintro e w3 ⟨X, d, rfl, hb3⟩
  have HB3 := Aside0.mk (below_then HB2.out HB2.out.size hb3)
  clear hb3 x0 x1
  go_wp2
  go_ret
  exact ⟨rfl, below_alloc HB3.out _⟩

set_option maxRecDepth 100000 in
set_option maxHeartbeats 8000000 in
/-- The law where the formula may be. -/
theorem settles_walk (v : Int) (A : Option Addr) (n c nT nU nt nS nR : Nat) (T r S D : List (List Int)) (t : List Int) (w : World)
    (hL : ∀ W, Below w.heap.size w W → Calls Try.prog 5 #[.agg #[.int .i64 v, .slice A n c]] W fun e w' => e = .returned (.bool false) ∧ Below W.heap.size W w')
    (hT1 : ∀ W, Below w.heap.size w W → Calls Try.prog 14 #[.agg #[.int .i64 v, .slice A n c]] W (ResC v nT T W))
    (hU1 : ∀ W, Below w.heap.size w W → Calls Try.prog 15 #[.agg #[.int .i64 v, .slice A n c]] W fun e w' => ∃ X d Y dy, e = .returned (.tuple #[.agg #[.int .i64 v, .slice X nU d], .slice Y nt dy, .int .i64 0]) ∧ nU ≤ d ∧ Kd.C kClause w' X nU r ∧ Kd.C (Kd.int .i64) w' Y nt t ∧ Below W.heap.size W w')
    (hS1 : ∀ W, Below w.heap.size w W → Calls Try.prog 16 #[.agg #[.int .i64 v, .slice A n c]] W (ResC v nS S W))
    (hR1 : ∀ W, Below w.heap.size w W → Calls Try.prog 17 #[.agg #[.int .i64 v, .slice A n c]] W (ResC v nR D W))
    (hT2 : ∀ W X d, nT ≤ d → Kd.C kClause W X nT T → Calls Try.prog 14 #[.agg #[.int .i64 v, .slice X nT d]] W (ResC v nT T W))
    (hU2 : ∀ W X d, nU ≤ d → Kd.C kClause W X nU r → Calls Try.prog 15 #[.agg #[.int .i64 v, .slice X nU d]] W fun e w' => ∃ X d Y dy, e = .returned (.tuple #[.agg #[.int .i64 v, .slice X nU d], .slice Y 0 dy, .int .i64 0]) ∧ nU ≤ d ∧ Kd.C kClause w' X nU r ∧ Below W.heap.size W w')
    (hS2 : ∀ W X d, nS ≤ d → Kd.C kClause W X nS S → Calls Try.prog 16 #[.agg #[.int .i64 v, .slice X nS d]] W (ResC v nS S W))
    (hR2 : ∀ W X d, nR ≤ d → Kd.C kClause W X nR D → Calls Try.prog 17 #[.agg #[.int .i64 v, .slice X nR d]] W (ResC v nR D W))
    (hCT : ∀ W X d Y e, nT ≤ d → nT ≤ e → Kd.C kClause W X nT T → Kd.C kClause W Y nT T → Calls Try.prog 10 #[.agg #[.int .i64 v, .slice X nT d], .agg #[.int .i64 v, .slice Y nT e]] W fun e w' => e = .returned (.bool true) ∧ Below W.heap.size W w')
    (hCU : ∀ W X d Y e, nU ≤ d → nU ≤ e → Kd.C kClause W X nU r → Kd.C kClause W Y nU r → Calls Try.prog 10 #[.agg #[.int .i64 v, .slice X nU d], .agg #[.int .i64 v, .slice Y nU e]] W fun e w' => e = .returned (.bool true) ∧ Below W.heap.size W w')
    (hCS : ∀ W X d Y e, nS ≤ d → nS ≤ e → Kd.C kClause W X nS S → Kd.C kClause W Y nS S → Calls Try.prog 10 #[.agg #[.int .i64 v, .slice X nS d], .agg #[.int .i64 v, .slice Y nS e]] W fun e w' => e = .returned (.bool true) ∧ Below W.heap.size W w')
    (hCR : ∀ W X d Y e, nR ≤ d → nR ≤ e → Kd.C kClause W X nR D → Kd.C kClause W Y nR D → Calls Try.prog 10 #[.agg #[.int .i64 v, .slice X nR d], .agg #[.int .i64 v, .slice Y nR e]] W fun e w' => e = .returned (.bool true) ∧ Below W.heap.size W w')
    (hle : nR ≤ nT) (hbd : ∀ x ∈ t, -262144 ≤ x ∧ x ≤ 262144) (haw : ∀ x ∈ t, Away r x) (hU : nU ≤ 4398046511104) (ht : nt ≤ 4398046511104) :
    Calls Try.prog 4 #[.agg #[.int .i64 v, .slice A n c]] w fun e w' => e = .returned (.bool true) ∧ Below w.heap.size w w' := by
  have KL := Aside0.mk hL
  have KT1 := Aside0.mk hT1
  have KU1 := Aside0.mk hU1
  have KS1 := Aside0.mk hS1
  have KR1 := Aside0.mk hR1
  have KT2 := Aside0.mk hT2
  have KU2 := Aside0.mk hU2
  have KS2 := Aside0.mk hS2
  have KR2 := Aside0.mk hR2
  have KCT := Aside0.mk hCT
  have KCU := Aside0.mk hCU
  have KCS := Aside0.mk hCS
  have KCR := Aside0.mk hCR
  have HLE := Aside0.mk hle
  have HBD := Aside0.mk hbd
  have HAW := Aside0.mk haw
  have HU := Aside0.mk hU
  have HTL := Aside0.mk ht
  clear hL hT1 hU1 hS1 hR1 hT2 hU2 hS2 hR2 hCT hCU hCS hCR hle hbd haw hU ht
  go_enter Try.func4, Try.ntmps4
  go_wp2_with fail
  refine (works_calls _).mono ?_
  rintro e w1 ⟨rfl, hb1⟩
  have X1 := Box.made hb1
  have x0 := X1.c0
  have x1 := X1.c1
  have HX := Aside0.mk X1
  have HB1 := Aside0.mk (B_go (Below.refl w.heap.size w) hb1)
  clear hb1 X1
  go_wp2_with fail
  refine (KL.out _ HB1.out).mono ?_
  rintro e w2 ⟨rfl, hb2⟩
  have HB2 := Aside0.mk (below_then HB1.out HB1.out.size hb2)
  have X2 := HX.out.below hb2
  clear x0 x1 HX
  have x0 := X2.c0
  have x1 := X2.c1
  have HX := Aside0.mk X2
  clear hb2 X2
  go_wp2_with fail
  refine (KT1.out _ HB2.out).mono ?_
  rintro e w3 ⟨Xa, da, rfl, hda, hCa, hb3⟩
  have HB3 := Aside0.mk (below_then HB2.out HB2.out.size hb3)
  have HCa := Aside0.mk hCa
  have X2 := HX.out.below hb3
  clear x0 x1 HX
  have x0 := (X2.old (.cells #[.int .i64 v, .slice Xa nT da] 24)).c0
  have x1 := (X2.old (.cells #[.int .i64 v, .slice Xa nT da] 24)).c1
  have HX := Aside0.mk X2
  clear hb3 X2 hCa
  go_wp2_with fail
  refine (KU1.out _ (below_alloc HB3.out _)).mono ?_
  rintro e w4 ⟨Xb, db, Y, dy, rfl, hdb, hCb, hCt, hb⟩
  have HB4 := Aside0.mk (B_go HB3.out hb)
  have GCa := Aside0.mk (C_go HCa.out hb)
  have GHX := Aside0.mk (HX.out.go hb)
  have HXa := Aside0.mk (Box.made hb)
  clear x0 x1 hb HCa HX
  have HCa := GCa; clear GCa
  have HX := GHX; clear GHX
  have HCb := Aside0.mk hCb
  have HCt := Aside0.mk hCt
  clear hCb hCt
  have x0 := (HX.out.old (.cells #[.int .i64 v, .slice Xb nU db] 24)).c0
  have x1 := (HX.out.old (.cells #[.int .i64 v, .slice Xb nU db] 24)).c1
  go_wp2_with fail
  refine (KS1.out _ (below_alloc HB4.out _)).mono ?_
  rintro e w5 ⟨Xs, ds, rfl, hds, hCs, hb⟩
  have HB5 := Aside0.mk (B_go HB4.out hb)
  have GCa := Aside0.mk (C_go HCa.out hb)
  have GCb := Aside0.mk (C_go HCb.out hb)
  have GCt := Aside0.mk (C_go HCt.out hb)
  have GHX := Aside0.mk (HX.out.go hb)
  have GHXa := Aside0.mk (HXa.out.go hb)
  have HXb := Aside0.mk (Box.made hb)
  clear x0 x1 hb HCa HCb HCt HX HXa
  have HCa := GCa; clear GCa
  have HCb := GCb; clear GCb
  have HCt := GCt; clear GCt
  have HX := GHX; clear GHX
  have HXa := GHXa; clear GHXa
  have HCs := Aside0.mk hCs
  clear hCs
  have x0 := (HX.out.old (.cells #[.int .i64 v, .slice Xs nS ds] 24)).c0
  have x1 := (HX.out.old (.cells #[.int .i64 v, .slice Xs nS ds] 24)).c1
  go_wp2_with fail
  refine (KR1.out _ (below_alloc HB5.out _)).mono ?_
  rintro e w6 ⟨Xd, dd, rfl, hdd, hCd, hb⟩
  have HB6 := Aside0.mk (B_go HB5.out hb)
  have GCa := Aside0.mk (C_go HCa.out hb)
  have GCb := Aside0.mk (C_go HCb.out hb)
  have GCt := Aside0.mk (C_go HCt.out hb)
  have GCs := Aside0.mk (C_go HCs.out hb)
  have GHX := Aside0.mk (HX.out.go hb)
  have GHXa := Aside0.mk (HXa.out.go hb)
  have GHXb := Aside0.mk (HXb.out.go hb)
  have HXs := Aside0.mk (Box.made hb)
  clear x0 x1 hb HCa HCb HCt HCs HX HXa HXb
  have HCa := GCa; clear GCa
  have HCb := GCb; clear GCb
  have HCt := GCt; clear GCt
  have HCs := GCs; clear GCs
  have HX := GHX; clear GHX
  have HXa := GHXa; clear GHXa
  have HXb := GHXb; clear GHXb
  have HCd := Aside0.mk hCd
  clear hCd
  have x0 := (HXa.out.old (.cells #[.int .i64 v, .slice Xd nR dd] 24)).c0
  have x1 := (HXa.out.old (.cells #[.int .i64 v, .slice Xd nR dd] 24)).c1
  go_wp2_with fail
  refine (KT2.out _ Xa da hda (C_al HCa.out _)).mono ?_
  rintro e w7 ⟨Xa2, da2, rfl, hda2, hCa2, hb⟩
  have HB7 := Aside0.mk (B_go HB6.out hb)
  have GCa := Aside0.mk (C_go HCa.out hb)
  have GCb := Aside0.mk (C_go HCb.out hb)
  have GCt := Aside0.mk (C_go HCt.out hb)
  have GCs := Aside0.mk (C_go HCs.out hb)
  have GCd := Aside0.mk (C_go HCd.out hb)
  have GHX := Aside0.mk (HX.out.go hb)
  have GHXa := Aside0.mk (HXa.out.go hb)
  have GHXb := Aside0.mk (HXb.out.go hb)
  have GHXs := Aside0.mk (HXs.out.go hb)
  have HXd := Aside0.mk (Box.made hb)
  clear x0 x1 hb HCa HCb HCt HCs HCd HX HXa HXb HXs
  have HCa := GCa; clear GCa
  have HCb := GCb; clear GCb
  have HCt := GCt; clear GCt
  have HCs := GCs; clear GCs
  have HCd := GCd; clear GCd
  have HX := GHX; clear GHX
  have HXa := GHXa; clear GHXa
  have HXb := GHXb; clear GHXb
  have HXs := GHXs; clear GHXs
  have HCa2 := Aside0.mk hCa2
  clear hCa2
  have x0 := (HXb.out.old (.cells #[.int .i64 v, .slice Xa2 nT da2] 24)).c0
  have x1 := (HXb.out.old (.cells #[.int .i64 v, .slice Xa2 nT da2] 24)).c1
  go_wp2_with fail
  refine (KU2.out _ Xb db hdb (C_al HCb.out _)).mono ?_
  rintro e w8 ⟨Xb2, db2, Y2, dy2, rfl, hdb2, hCb2, hb⟩
  have HB8 := Aside0.mk (B_go HB7.out hb)
  have GCa := Aside0.mk (C_go HCa.out hb)
  have GCb := Aside0.mk (C_go HCb.out hb)
  have GCt := Aside0.mk (C_go HCt.out hb)
  have GCs := Aside0.mk (C_go HCs.out hb)
  have GCd := Aside0.mk (C_go HCd.out hb)
  have GCa2 := Aside0.mk (C_go HCa2.out hb)
  have GHX := Aside0.mk (HX.out.go hb)
  have GHXa := Aside0.mk (HXa.out.go hb)
  have GHXb := Aside0.mk (HXb.out.go hb)
  have GHXs := Aside0.mk (HXs.out.go hb)
  have GHXd := Aside0.mk (HXd.out.go hb)
  have HXa2 := Aside0.mk (Box.made hb)
  clear x0 x1 hb HCa HCb HCt HCs HCd HCa2 HX HXa HXb HXs HXd
  have HCa := GCa; clear GCa
  have HCb := GCb; clear GCb
  have HCt := GCt; clear GCt
  have HCs := GCs; clear GCs
  have HCd := GCd; clear GCd
  have HCa2 := GCa2; clear GCa2
  have HX := GHX; clear GHX
  have HXa := GHXa; clear GHXa
  have HXb := GHXb; clear GHXb
  have HXs := GHXs; clear GHXs
  have HXd := GHXd; clear GHXd
  have HCb2 := Aside0.mk hCb2
  clear hCb2
  have x0 := (HXs.out.old (.cells #[.int .i64 v, .slice Xb2 nU db2] 24)).c0
  have x1 := (HXs.out.old (.cells #[.int .i64 v, .slice Xb2 nU db2] 24)).c1
  go_wp2_with fail
  refine (KS2.out _ Xs ds hds (C_al HCs.out _)).mono ?_
  rintro e w9 ⟨Xs2, ds2, rfl, hds2, hCs2, hb⟩
  have HB9 := Aside0.mk (B_go HB8.out hb)
  have GCa := Aside0.mk (C_go HCa.out hb)
  have GCb := Aside0.mk (C_go HCb.out hb)
  have GCt := Aside0.mk (C_go HCt.out hb)
  have GCs := Aside0.mk (C_go HCs.out hb)
  have GCd := Aside0.mk (C_go HCd.out hb)
  have GCa2 := Aside0.mk (C_go HCa2.out hb)
  have GCb2 := Aside0.mk (C_go HCb2.out hb)
  have GHX := Aside0.mk (HX.out.go hb)
  have GHXa := Aside0.mk (HXa.out.go hb)
  have GHXb := Aside0.mk (HXb.out.go hb)
  have GHXs := Aside0.mk (HXs.out.go hb)
  have GHXd := Aside0.mk (HXd.out.go hb)
  have GHXa2 := Aside0.mk (HXa2.out.go hb)
  have HXb2 := Aside0.mk (Box.made hb)
  clear x0 x1 hb HCa HCb HCt HCs HCd HCa2 HCb2 HX HXa HXb HXs HXd HXa2
  have HCa := GCa; clear GCa
  have HCb := GCb; clear GCb
  have HCt := GCt; clear GCt
  have HCs := GCs; clear GCs
  have HCd := GCd; clear GCd
  have HCa2 := GCa2; clear GCa2
  have HCb2 := GCb2; clear GCb2
  have HX := GHX; clear GHX
  have HXa := GHXa; clear GHXa
  have HXb := GHXb; clear GHXb
  have HXs := GHXs; clear GHXs
  have HXd := GHXd; clear GHXd
  have HXa2 := GHXa2; clear GHXa2
  have HCs2 := Aside0.mk hCs2
  clear hCs2
  have x0 := (HXd.out.old (.cells #[.int .i64 v, .slice Xs2 nS ds2] 24)).c0
  have x1 := (HXd.out.old (.cells #[.int .i64 v, .slice Xs2 nS ds2] 24)).c1
  go_wp2_with fail
  refine (KR2.out _ Xd dd hdd (C_al HCd.out _)).mono ?_
  rintro e w10 ⟨Xd2, dd2, rfl, hdd2, hCd2, hb⟩
  have HB10 := Aside0.mk (B_go HB9.out hb)
  have GCa := Aside0.mk (C_go HCa.out hb)
  have GCb := Aside0.mk (C_go HCb.out hb)
  have GCt := Aside0.mk (C_go HCt.out hb)
  have GCs := Aside0.mk (C_go HCs.out hb)
  have GCd := Aside0.mk (C_go HCd.out hb)
  have GCa2 := Aside0.mk (C_go HCa2.out hb)
  have GCb2 := Aside0.mk (C_go HCb2.out hb)
  have GCs2 := Aside0.mk (C_go HCs2.out hb)
  have GHX := Aside0.mk (HX.out.go hb)
  have GHXa := Aside0.mk (HXa.out.go hb)
  have GHXb := Aside0.mk (HXb.out.go hb)
  have GHXs := Aside0.mk (HXs.out.go hb)
  have GHXd := Aside0.mk (HXd.out.go hb)
  have GHXa2 := Aside0.mk (HXa2.out.go hb)
  have GHXb2 := Aside0.mk (HXb2.out.go hb)
  have HXs2 := Aside0.mk (Box.made hb)
  clear x0 x1 hb HCa HCb HCt HCs HCd HCa2 HCb2 HCs2 HX HXa HXb HXs HXd HXa2 HXb2
  have HCa := GCa; clear GCa
  have HCb := GCb; clear GCb
  have HCt := GCt; clear GCt
  have HCs := GCs; clear GCs
  have HCd := GCd; clear GCd
  have HCa2 := GCa2; clear GCa2
  have HCb2 := GCb2; clear GCb2
  have HCs2 := GCs2; clear GCs2
  have HX := GHX; clear GHX
  have HXa := GHXa; clear GHXa
  have HXb := GHXb; clear GHXb
  have HXs := GHXs; clear GHXs
  have HXd := GHXd; clear GHXd
  have HXa2 := GHXa2; clear GHXa2
  have HXb2 := GHXb2; clear GHXb2
  have HCd2 := Aside0.mk hCd2
  clear hCd2
  go_wp2_with fail
  obtain ⟨W, hW⟩ : ∃ W, W = (w10.alloc (.cells #[.int .i64 v, .slice Xd2 nR dd2] 24)) := ⟨_, rfl⟩
  have Ba := Aside0.mk (show Box W w3.heap.size v Xa nT da by rw [hW]; exact HXa.out.old _)
  have Bb := Aside0.mk (show Box W w4.heap.size v Xb nU db by rw [hW]; exact HXb.out.old _)
  have Bs := Aside0.mk (show Box W w5.heap.size v Xs nS ds by rw [hW]; exact HXs.out.old _)
  have Bd := Aside0.mk (show Box W w6.heap.size v Xd nR dd by rw [hW]; exact HXd.out.old _)
  have Ba2 := Aside0.mk (show Box W w7.heap.size v Xa2 nT da2 by rw [hW]; exact HXa2.out.old _)
  have Bb2 := Aside0.mk (show Box W w8.heap.size v Xb2 nU db2 by rw [hW]; exact HXb2.out.old _)
  have Bs2 := Aside0.mk (show Box W w9.heap.size v Xs2 nS ds2 by rw [hW]; exact HXs2.out.old _)
  have Bd2 := Aside0.mk (show Box W w10.heap.size v Xd2 nR dd2 by rw [hW]; exact Box.new _ _ _ _ _)
  have Ca := Aside0.mk (show Kd.C kClause W Xa nT T by rw [hW]; exact C_al HCa.out _)
  have Cb := Aside0.mk (show Kd.C kClause W Xb nU r by rw [hW]; exact C_al HCb.out _)
  have Cs := Aside0.mk (show Kd.C kClause W Xs nS S by rw [hW]; exact C_al HCs.out _)
  have Cd := Aside0.mk (show Kd.C kClause W Xd nR D by rw [hW]; exact C_al HCd.out _)
  have Ca2 := Aside0.mk (show Kd.C kClause W Xa2 nT T by rw [hW]; exact C_al HCa2.out _)
  have Cb2 := Aside0.mk (show Kd.C kClause W Xb2 nU r by rw [hW]; exact C_al HCb2.out _)
  have Cs2 := Aside0.mk (show Kd.C kClause W Xs2 nS S by rw [hW]; exact C_al HCs2.out _)
  have Cd2 := Aside0.mk (show Kd.C kClause W Xd2 nR D by rw [hW]; exact C_al HCd2.out _)
  have Ct := Aside0.mk (show Kd.C (Kd.int .i64) W Y nt t by rw [hW]; exact C_al HCt.out _)
  have HBW := Aside0.mk (show Below w.heap.size w W by rw [hW]; exact below_alloc HB10.out _)
  have Ea := Aside0.mk hda
  have Eb := Aside0.mk hdb
  have Es := Aside0.mk hds
  have Ed := Aside0.mk hdd
  have Ea2 := Aside0.mk hda2
  have Eb2 := Aside0.mk hdb2
  have Es2 := Aside0.mk hds2
  have Ed2 := Aside0.mk hdd2
  rw [← hW]
  clear hW HX HXa HXb HXs HXd HXa2 HXb2 HXs2 HCa HCb HCs HCd HCa2 HCb2 HCs2 HCd2 HCt HB1 HB2 HB3 HB4 HB5 HB6 HB7 HB8 HB9 HB10 hda hdb hds hdd hda2 hdb2 hds2 hdd2
  have y1 := Bb.out.c1
  have hnU : nU ≤ 9223372036854775806 := by have := HU.out; omega
  have hnt : nt ≤ 9223372036854775806 := by have := HTL.out; omega
  go_loop [106] (fun x => ∃ i : Nat, x = .int .i64 (i : Int) ∧ i ≤ nt) (fun x => nt - (intOf x).toNat)
  case atStart => exact ⟨0, rfl, Nat.zero_le _⟩
  case round =>
    obtain ⟨i, rfl, hi⟩ := hrel
    by_cases hlt : i < nt
    · obtain ⟨ad, l, e, hm, hcl⟩ := at_ints Ct.out i hlt
      cases e
      obtain ⟨hl1, hl2⟩ := HBD.out l hm
      have HM := Aside0.mk hm
      clear hm
      have hdi : decide ((i : Int) < (nt : Int)) = true := decide_eq_true (by omega)
      go_wp2
      go_loop [113] (fun x => ∃ j : Nat, x = .int .i64 (j : Int) ∧ j ≤ nU) (fun x => nU - (intOf x).toNat)
      case atStart => exact ⟨0, rfl, Nat.zero_le _⟩
      case round =>
        obtain ⟨j, rfl, hj⟩ := hrel
        by_cases hlj : j < nU
        · obtain ⟨ae, A0, c0, k, e, hg, hck, _, hrow⟩ := at_rows Cb.out j hlj
          cases e
          have HK := Aside0.mk (List.mem_of_getElem? hg)
          clear hg
          have hq0 := hrow.2.1
          obtain ⟨q, hq⟩ : ∃ q, q = k.length := ⟨_, rfl⟩
          rw [← hq] at hck hrow hq0
          have HROW := Aside0.mk hrow
          clear hq hrow
          have hdj : decide ((j : Int) < (nU : Int)) = true := decide_eq_true (by omega)
          go_wp2
          go_loop [119] (fun x => ∃ p : Nat, x = .int .i64 (p : Int) ∧ p ≤ q) (fun x => q - (intOf x).toNat)
          case atStart => exact ⟨0, rfl, Nat.zero_le _⟩
          case round =>
            obtain ⟨p, rfl, hp⟩ := hrel
            by_cases hlp : p < q
            · obtain ⟨af, m, e, hmm, hcm⟩ := at_ints HROW.out p hlp
              cases e
              have hne := HAW.out l HM.out k HK.out
              have h1 : (m == l) = false := by rw [beq_eq_false_iff_ne]; exact fun e => hne.1 (e ▸ hmm)
              have h2 : (m == -l) = false := by rw [beq_eq_false_iff_ne]; exact fun e => hne.2 (e ▸ hmm)
              have hdp : decide ((p : Int) < (q : Int)) = true := decide_eq_true (by omega)
              clear hne hmm
              go_wp2
              go_round
              case rel => exact ⟨p + 1, by go_num, by omega⟩
              case measure => simp [intOf]; omega
            · have hdp : decide ((p : Int) < (q : Int)) = false := decide_eq_false (by omega)
              go_wp2
              go_round
              case rel => exact ⟨j + 1, by go_num, by omega⟩
              case measure => simp [intOf]; omega
        · have hdj : decide ((j : Int) < (nU : Int)) = false := decide_eq_false (by omega)
          go_wp2
          go_round
          case rel => exact ⟨i + 1, by go_num, by omega⟩
          case measure => simp [intOf]; omega
    · have hdi : decide ((i : Int) < (nt : Int)) = false := decide_eq_false (by omega)
      clear y1 hnU hnt
      have BW0 := Aside0.mk (Below.refl W.heap.size W)
      have hle : decide ((nR : Int) ≤ (nT : Int)) = true := decide_eq_true (by have := HLE.out; omega)
      have x00 := (Ba.out.below BW0.out).c0; have x01 := (Ba.out.below BW0.out).c1; have x10 := (Ba2.out.below BW0.out).c0; have x11 := (Ba2.out.below BW0.out).c1
      go_wp2_with fail
      refine (KCT.out _ Xa da Xa2 da2 Ea.out Ea2.out (Kd.C_below Ca.out BW0.out) (Kd.C_below Ca2.out BW0.out)).mono ?_
      rintro e w11 ⟨rfl, hb⟩
      have BW1 := Aside0.mk (below_then BW0.out BW0.out.size hb)
      clear hb x00 x01 x10 x11
      have x00 := (Bb.out.below BW1.out).c0; have x01 := (Bb.out.below BW1.out).c1; have x10 := (Bb2.out.below BW1.out).c0; have x11 := (Bb2.out.below BW1.out).c1
      go_wp2_with fail
      refine (KCU.out _ Xb db Xb2 db2 Eb.out Eb2.out (Kd.C_below Cb.out BW1.out) (Kd.C_below Cb2.out BW1.out)).mono ?_
      rintro e w12 ⟨rfl, hb⟩
      have BW2 := Aside0.mk (below_then BW1.out BW1.out.size hb)
      clear hb x00 x01 x10 x11
      have x00 := (Bs.out.below BW2.out).c0; have x01 := (Bs.out.below BW2.out).c1; have x10 := (Bs2.out.below BW2.out).c0; have x11 := (Bs2.out.below BW2.out).c1
      go_wp2_with fail
      refine (KCS.out _ Xs ds Xs2 ds2 Es.out Es2.out (Kd.C_below Cs.out BW2.out) (Kd.C_below Cs2.out BW2.out)).mono ?_
      rintro e w13 ⟨rfl, hb⟩
      have BW3 := Aside0.mk (below_then BW2.out BW2.out.size hb)
      clear hb x00 x01 x10 x11
      have x00 := (Bd.out.below BW3.out).c0; have x01 := (Bd.out.below BW3.out).c1; have x10 := (Bd2.out.below BW3.out).c0; have x11 := (Bd2.out.below BW3.out).c1
      go_wp2_with fail
      refine (KCR.out _ Xd dd Xd2 dd2 Ed.out Ed2.out (Kd.C_below Cd.out BW3.out) (Kd.C_below Cd2.out BW3.out)).mono ?_
      rintro e w14 ⟨rfl, hb⟩
      have BW4 := Aside0.mk (below_then BW3.out BW3.out.size hb)
      clear hb x00 x01 x10 x11
      have x00 := (Bd.out.below BW4.out).c0; have x01 := (Bd.out.below BW4.out).c1; have x10 := (Ba.out.below BW4.out).c0; have x11 := (Ba.out.below BW4.out).c1
      go_wp2
      go_ret
      exact ⟨by show Ending.returned (.bool (decide (nR ≤ nT))) = _; rw [decide_eq_true HLE.out], below_then HBW.out HBW.out.size BW4.out⟩

end Go.Proofs.Ythhmjfjkbmmcaaa
/- A formula that comes in is read as its number and its rows of numbers. -/
namespace Go.Proofs.Ythhmjfjkbmmcaaa
open Go.RowKit Go.Proofs.YthhmjfjkbmmcaaaW.PrintWords Go.Proofs.YthhmjfjkbmmcaaaW.PrintLast Go.Proofs.YthhmjfjkbmmcaaaW.PrintMore
open Go.ChangeShapes Go.WideShapes Go.ChangeAt
set_option linter.unusedVariables false
set_option linter.unusedSimpArgs false

theorem C_ints_of {w : World} {A : Option Addr} {n : Nat} {zs : List Int} (hl : n ≤ zs.length) (hm : n ≤ 9223372036854775807) (hn : A = none → n = 0) (hc : ∀ a, A = some a → ∀ i, i < n → w.cell? (a.add i) = some (.int .i64 (zs.getD i 0))) : (Kd.int .i64).C w A n (zs.take n) := by
  refine ⟨by rw [List.length_take]; omega, hm, fun h0 => ?_⟩
  rcases A with _ | a
  · have := hn rfl; omega
  · refine ⟨a, rfl, fun j p hj => ⟨[.int .i64 p], rfl, rfl, fun i u hu => ?_⟩⟩
    have hjn : j < n := by
      have := (List.getElem?_eq_some_iff.1 hj).1
      rw [List.length_take] at this
      omega
    rw [List.getElem?_take_of_lt hjn] at hj
    match i, hu with
    | 0, hu =>
      cases hu
      rw [show (j * (Kd.int .i64).sz + 0) = j by show j * 1 + 0 = j; omega, hc a rfl j hjn, List.getD_eq_getElem?_getD, hj]
      rfl
theorem C_rows_of {w : World} {a : Addr} {len cap : Nat} {A : Nat → Option Addr} {L C : Nat → Nat} {Z : Nat → List Int} (hl : len ≤ cap) (hm : cap ≤ maxLen)
    (h : ∀ r, r < cap → w.cell? (a.add r) = some (.slice (A r) (L r) (C r)) ∧ L r ≤ C r ∧ C r ≤ maxLen ∧ (Z r).length = C r ∧ (∀ n ∈ Z r, (Lit.int .i64 n).wf = true) ∧ (A r = none → C r = 0) ∧
        ∀ a', A r = some a' → 0 ≤ a'.block ∧ ∀ c, c < C r → w.cell? (a'.add c) = some (.int .i64 ((Z r).getD c 0))) :
    Kd.C (Kd.slice 3 (Kd.int .i64)) w (some a) len ((List.range len).map fun r => (Z r).take (L r)) := by
  unfold maxLen at hm
  refine ⟨by simp, by omega, fun h0 => ⟨a, rfl, fun j p hj => ?_⟩⟩
  have hjn : j < len := by
    have := (List.getElem?_eq_some_iff.1 hj).1
    simpa using this
  obtain rfl : p = (Z j).take (L j) := by
    rw [List.getElem?_map, List.getElem?_range hjn] at hj
    exact (Option.some.inj hj).symm
  obtain ⟨h1, h2, h3, h4, _, h6, h7⟩ := h j (by omega)
  unfold maxLen at h3
  have hlen : ((Z j).take (L j)).length = L j := by rw [List.length_take]; omega
  refine ⟨[.slice (A j) (L j) (C j)], rfl, ⟨A j, C j, by rw [hlen], by omega, ?_⟩, fun i u hu => ?_⟩
  · rw [hlen]
    exact C_ints_of (by omega) (by omega) (fun e => by have := h6 e; omega) (fun a' e i hi => (h7 a' e).2 i (by omega))
  · match i, hu with
    | 0, hu =>
      cases hu
      rw [show (j * (Kd.slice 3 (Kd.int .i64)).sz + 0) = j by show j * 1 + 0 = j; omega]
      exact h1

theorem laidOut : laidOutB Try.prog = true := by kernel_rfl
/-! ## What the bound gives -/
theorem bulk_one {H : Type} (d : DataW H) : 1 ≤ Rows.uptoBulk d := by
  cases d with
  | lit l => cases l <;> simp [Rows.uptoBulk]
  | nil => simp [Rows.uptoBulk]
  | ptr d => simp [Rows.uptoBulk]
  | slice elems spare => simp [Rows.uptoBulk]
  | agg parts => simp [Rows.uptoBulk]
  | iface t d => simp [Rows.uptoBulk]
  | map entries => simp [Rows.uptoBulk]
  | held h => simp [Rows.uptoBulk]
theorem bulk_len {H : Type} : ∀ l : List (DataW H), l.length ≤ Rows.uptoBulkAll l
  | [] => by simp [Rows.uptoBulkAll]
  | d :: l => by have := bulk_one d; have := bulk_len l; simp only [Rows.uptoBulkAll, List.length_cons]; omega
theorem bulk_row {H : Type} (A : Option Addr) (L : Nat) (zs : List Int) (h : A = none → L = 0) : (zs.take L).length + 1 ≤ Rows.uptoBulk (Deep.intRow (H := H) .i64 A L zs) := by
  unfold Deep.intRow
  rcases A with _ | a
  · rw [h rfl]; simp [Rows.uptoBulk]
  · have h1 := bulk_len (lits (H := H) .i64 (zs.take L))
    have h2 : (lits (H := H) .i64 (zs.take L)).length = (zs.take L).length := by simp [lits]
    simp only [Rows.uptoBulk]
    omega
theorem bulk_rows {H : Type} (A : Nat → Option Addr) (L : Nat → Nat) (Z : Nat → List Int) : ∀ rs : List Nat, (∀ r ∈ rs, A r = none → L r = 0) → ((rs.map fun r => (Z r).take (L r)).map List.length).sum + rs.length ≤ Rows.uptoBulkAll (rs.map fun r => Deep.intRow (H := H) .i64 (A r) (L r) (Z r))
  | [], _ => by simp [Rows.uptoBulkAll]
  | r :: rs, h => by
    have h1 := bulk_row (H := H) (A r) (L r) (Z r) (h r (by simp))
    have h2 := bulk_rows (H := H) A L Z rs (fun r hr => h r (List.mem_cons_of_mem _ hr))
    simp only [List.map_cons, List.sum_cons, List.length_cons, Rows.uptoBulkAll] at *
    omega

set_option maxRecDepth 100000 in
/-- A formula, opened. -/
theorem open_cnf {H : Type} {enc : TypeId × Value → H} {W : World} {base : Nat} {v : Value} {d : DataW H} {p : List MemPlace} (hv : Value.okWide Try.prog W .any base 24 v) (h : DataW.Trod enc Try.prog W 0 (fun _ => true) true 24 v d p) :
    ∃ (n : Int) (A : Option Addr) (c : Nat) (ls : List (List Int)), v = .agg #[.int .i64 n, .slice A ls.length c] ∧ (Lit.int .i64 n).wf = true ∧ ls.length ≤ c ∧ Kd.C (Kd.slice 3 (Kd.int .i64)) W A ls.length ls ∧ (ls.map List.length).sum + ls.length ≤ Rows.uptoBulk d := by
  obtain ⟨v0, v1, y0, y1, m, rfl, rfl, _, h0, h1⟩ := Joins.open_agg2 Try.underlying24 (by kernel_rfl) (by kernel_rfl) hv h
  obtain ⟨n, hn0, _, hw⟩ := DataW.trod_int Try.underlying3 h0
  have hn : v0 = .int .i64 n := by injection hn0
  clear hn0
  subst hn
  rcases Deep.open_int_rows Try.underlying22 Try.underlying43 Try.underlying3 (by kernel_rfl) (by kernel_rfl) h1 with ⟨hcs, _⟩ | ⟨a, len, cap, A, L, C, Z, hcs, _, hl, hm, hy, hr⟩
  · injection hcs with hcs
    subst hcs
    exact ⟨n, none, 0, [], rfl, hw, Nat.le_refl _, Kd.C_nil _ _, by simp⟩
  · injection hcs with hcs
    subst hcs
    have hlen : ((List.range len).map fun r => (Z r).take (L r)).length = len := by rw [List.length_map, List.length_range]
    have hb := bulk_rows (H := H) A L Z (List.range len) (fun r hr' hn => by
      have h2 := hr r (Nat.lt_of_lt_of_le (List.mem_range.1 hr') hl)
      have := h2.2.2.2.2.2.1 hn
      have := h2.2.1
      omega)
    rw [List.length_range] at hb
    refine ⟨n, some a, cap, (List.range len).map fun r => (Z r).take (L r), ?_, hw, ?_, ?_, ?_⟩
    · rw [hlen]
    · rw [hlen]; exact hl
    · rw [hlen]; exact C_rows_of hl hm hr
    · rw [hlen, hy]
      simp only [Rows.uptoBulk, Rows.uptoBulkAll]
      omega

end Go.Proofs.Ythhmjfjkbmmcaaa
/- CleanSettles returns true for every formula, and leaves it as it was; stated for formulas of bulk at most 1048576. -/
namespace Go.Proofs.Ythhmjfjkbmmcaaa
open Go.RowKit Go.Proofs.YthhmjfjkbmmcaaaW.PrintWords Go.Proofs.YthhmjfjkbmmcaaaW.PrintLast Go.Proofs.YthhmjfjkbmmcaaaW.PrintMore
open GCS
open Go.ChangeShapes Go.WideShapes Go.ChangeAt
set_option linter.unusedVariables false
set_option linter.unusedSimpArgs false

theorem settles_calls (v : Int) (A : Option Addr) (c : Nat) (ls : List (List Int)) (w : World) (hf : Kd.C kClause w A ls.length ls) (hc : ls.length ≤ c) (hcm : ls.length ≤ 9223372036854775806) :
    Calls Try.prog 4 #[.agg #[.int .i64 v, .slice A ls.length c]] w fun e w' => e = .returned (.bool true) ∧ Below w.heap.size w w' := by
  obtain ⟨b, _, hL⟩ := large_calls v A ls.length c ls w rfl hf hc (by omega)
  cases b with
  | true => exact settles_large v A ls.length c w hL
  | false =>
    by_cases hk : chk v ls = 0
    · obtain ⟨h1, h2, h3, h4⟩ := (chk_ok v ls).1 hk
      have hT := tidyv_tidied ls
      have oT := okC_tidy h4
      have lT := tidyv_length ls
      have fT := tidyv_fix hT
      generalize hTe : tidyv ls = T at hT oT lT fT
      have kT : chk v T = 0 := (chk_ok v T).2 ⟨h1, h2, by omega, oT⟩
      obtain ⟨r, t, eU, uT, oU, uA, uS, uL, uLt⟩ := unitsF_ok (litsOf T + 2) T [] v (by omega) hT oT (by simp)
      have kU : chk v r = 0 := (chk_ok v r).2 ⟨h1, h2, by omega, oU⟩
      have fU := tidyv_fix uT
      have hS := tidied_sub hT (subv_sub T)
      have oS : ∀ c ∈ subv T, OkC v c := fun c hc => oT c ((subv_sub T).subset hc)
      have lS := (subv_sub T).length_le
      have fS := tidyv_fix hS
      have sS := subv_fix T
      have kS : chk v (subv T) = 0 := (chk_ok v (subv T)).2 ⟨h1, h2, by omega, oS⟩
      obtain ⟨D, eD, dT, oD, dS, lD, _⟩ := strF_ok (litsOf T + 2) T v (by omega) hT oT
      have kD : chk v D = 0 := (chk_ok v D).2 ⟨h1, h2, by omega, oD⟩
      have fD := tidyv_fix dT
      have ht : t.length ≤ 4398046511104 := by
        have h7 := litsOf_le oT
        simp only [List.length_nil] at uLt
        omega
      have hC : ∀ (x : List (List Int)), (∀ c ∈ x, OkC v c) → x.length ≤ 524288 → ∀ W X d Y e, x.length ≤ d → x.length ≤ e → Kd.C kClause W X x.length x → Kd.C kClause W Y x.length x → Calls Try.prog 10 #[.agg #[.int .i64 v, .slice X x.length d], .agg #[.int .i64 v, .slice Y x.length e]] W fun e w' => e = .returned (.bool true) ∧ Below W.heap.size W w' := fun x ox lx W X d Y e hd he h1 h2 => sameCnf_refl v x.length X Y d e x W rfl h1 hd h2 he (by omega) (okC_len ox)
      refine settles_walk v A ls.length c T.length r.length t.length (subv T).length D.length T r (subv T) D t w hL
        (fun W hW => by have := tidy_res v A ls.length c ls W rfl (Kd.C_below hf hW) hc hk; rw [hTe] at this; exact this)
        (fun W hW => by have := units_res v A ls.length c ls r t W rfl (Kd.C_below hf hW) hc hk (by rw [hTe]; exact eU) oU (by omega); exact this)
        (fun W hW => by have := subs_res v A ls.length c ls W rfl (Kd.C_below hf hW) hc hk; rw [hTe] at this; exact this)
        (fun W hW => stren_res v A ls.length c ls D W rfl (Kd.C_below hf hW) hc hk (by rw [hTe]; exact eD) oD (by omega))
        (fun W X d hd hX => by have := tidy_res v X T.length d T W rfl hX hd kT; rw [fT] at this; exact this)
        (fun W X d hd hX => by have := units_res v X r.length d r r [] W rfl hX hd kU (by rw [fU]; exact unitsF_still [] uS) oU (by omega); exact this.mono fun e w' ⟨X, d, Y, dy, h1, h2, h3, _, h5⟩ => ⟨X, d, Y, dy, h1, h2, h3, h5⟩)
        (fun W X d hd hX => by have := subs_res v X (subv T).length d (subv T) W rfl hX hd kS; rw [fS, sS] at this; exact this)
        (fun W X d hd hX => stren_res v X D.length d D D W rfl hX hd kD (by rw [fD]; exact strF_stop dS) oD (by omega))
        (hC T oT (by omega)) (hC r oU (by omega)) (hC (subv T) oS (by omega)) (hC D oD (by omega)) lD
        (fun x hx => by have := (uA x hx).2; simp only [badLit, Bool.or_eq_false_iff, decide_eq_false_iff_not] at this; omega)
        (fun x hx => (uA x hx).1) (by omega) ht
    · exact settles_bad v (chk v ls) A ls.length c w hk hL (fun W hW => tidy_bad v A ls.length c ls W rfl (Kd.C_below hf hW) hc hk)

theorem own : ownKnob Try.prog.godebug = none := by kernel_rfl
set_option maxRecDepth 100000 in
theorem settles_lifted (os : Os) (started : os.Started) (H : Type) (enc : TypeId × Value → H) (F : Stop.Interp) :
    ReturnsInHanded {} Try.checked os 4 .any ((Rows.OpenSpec.upto Rows.cleanSettlesSpec).pre6 enc Try.prog Try.f4 Rows.cleanSettlesUptoRow.domain false) (((Rows.OpenSpec.upto Rows.cleanSettlesSpec).at F).post enc Try.prog Try.f4 false true false false) := by
  refine returnsInHanded_of_cond (C := Try.checked) (s := Rows.OpenSpec.upto Rows.cleanSettlesSpec) (k := Rows.uptoSmall) rfl own started (by kernel_rfl) Try.func4
    (OpenSpec.witness (enc := enc) (C := Try.checked) (s := Rows.OpenSpec.upto Rows.cleanSettlesSpec) (k := Rows.uptoSmall) rfl false ⟨#[], #[.agg #[.int .i64 0, .slice none 0 0]], []⟩ 8 (by kernel_rfl) (by kernel_rfl) (by kernel_rfl)
      (x := ([.agg [.lit (.int .i64 0), .nil]], [], [])) (by kernel_rfl) rfl (by kernel_rfl)) ?_
  intro W base args ds gs before hval hW _ hk _
  have hW' := hW
  obtain ⟨p, q, hA0, hV, rfl, hfz, hnd⟩ := hW
  have hA : DataW.TrodAll enc Try.prog W 0 (fun _ => true) true Try.f4.params.toList args.toList ds p := hA0
  have hval' : ∀ (j : Nat) t v, Try.f4.params[j]? = some t → args[j]? = some v → Value.okWide Try.prog W .any base t v := hval
  rw [Try.params4] at hA hval'
  obtain ⟨v0, vs0, d0, ds0, p0, q0, hargs, rfl, rfl, h0, r0⟩ := trodAll_cons hA
  obtain ⟨rfl, rfl, rfl⟩ := trodAll_nil r0
  obtain rfl : args = #[v0] := by cases args; simp_all
  obtain ⟨rfl, rfl⟩ := trodVars_none hV
  have k0 := h0
  have lt0 : ∀ x ∈ p0, x.block < W.heap.size := by obtain ⟨m, hm⟩ := k0; exact DataW.trod_lt m _ _ _ hm
  obtain ⟨n, A, c, ls, rfl, hw, hlc, hC, hbulk⟩ := open_cnf (hval' 0 _ v0 rfl rfl) h0
  have hk2 : Rows.uptoBulkAll ([d0] ++ []) ≤ 1048576 := of_decide_eq_true hk
  simp only [List.append_nil, Rows.uptoBulkAll] at hk2
  clear hA0 hA r0
  simp only [List.append_nil] at hW'
  refine (settles_calls n A c ls W hC hlc (by omega)).mono fun e W' ⟨he, bel⟩ => ?_
  subst he
  exact ⟨_, rfl, _, _, _, [], _, [], hW', trodAll_mk1 (shut_bool Try.underlying4 _), trodAll_cons_mk (Below.trod laidOut (by kernel_rfl) (of_decide_eq_true (by kernel_rfl)) k0 bel lt0) trodAll_mk0, rfl, bel.frame _, fun h => by cases h⟩

theorem settles_over : Rows.cleanSettlesUptoRow.holds Try.pinned (Rows.OpenSpec.upto Rows.cleanSettlesSpec) :=
  OpenClaim.holds_of_cond 4 Try.f4 rfl rfl rfl rfl rfl rfl rfl ⟨rfl, rfl, rfl, rfl, rfl⟩ rfl rfl rfl rfl rfl (by kernel_rfl) Try.func4 (by kernel_rfl)
    (of_decide_eq_true (by kernel_rfl)) (by unfold Func.isWrapper; first | (rw [if_pos (by decide +kernel)]; kernel_rfl) | (rw [if_neg (by decide +kernel)]; exact ⟨rfl, rfl⟩))
    (fun os started H enc _ F => settles_lifted os started H enc F)

/-- CleanSettles is true of every formula. -/
theorem cleanSettlesUpto_holds : Rows.CleanSettlesUptoSaid := settles_over
#print axioms cleanSettlesUpto_holds

end Go.Proofs.Ythhmjfjkbmmcaaa
