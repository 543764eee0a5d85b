/- The claim on CleanOuts. -/
import Derived.Test.YthhmjfjkbmmcaaaKRB
import Derived.Test.YthhmjfjkbmmcaaaKRA
import Derived.Test.YthhmjfjkbmmcaaaKRD
import Derived.Test.YthhmjfjkbmmcaaaKRE
import Derived.Test.YthhmjfjkbmmcaaaKRF
import Derived.Test.YthhmjfjkbmmcaaaKRH
import Derived.Test.YthhmjfjkbmmcaaaRows
import Derived.ProofKit
import Derived.OpenShut
import Derived.ChangeOld
import Derived.Deep.Matrix
import Derived.Lib.SmallJoins
import Derived.Carry
import Derived.JoinedCond
/- Normal forms and tidy clauses. -/
namespace Go.Proofs.Ythhmjfjkbmmcaaa
open Go.RowKit Go.Proofs.YthhmjfjkbmmcaaaW.PrintWords Go.Proofs.YthhmjfjkbmmcaaaW.PrintLast Go.Proofs.YthhmjfjkbmmcaaaW.PrintMore
set_option linter.unusedVariables false
set_option linter.unusedSimpArgs false

theorem ordv_tri (x y : Int) : ordv x y < 0 ∨ x = y ∨ ordv y x < 0 := by
  rw [ordv_neg, ordv_neg]
  have := vr_or x; have := vr_or y
  omega
theorem ordv_tr {x y z : Int} (h1 : ordv x y < 0) (h2 : ordv y z < 0) : ordv x z < 0 := by
  rw [ordv_neg] at *
  omega
theorem ordv_ir (x : Int) : ¬ ordv x x < 0 := by
  rw [ordv_neg]
  omega
theorem ltB_le (x y : Int) : (!ltB y x) = true ↔ (ordv x y < 0 ∨ x = y) := by
  unfold ltB
  rw [Bool.not_eq_true', decide_eq_false_iff_not]
  constructor
  · intro h
    rcases ordv_tri x y with h1 | h1 | h1
    · exact .inl h1
    · exact .inr h1
    · exact absurd h1 h
  · rintro (h | rfl) h2
    · exact ordv_ir x (ordv_tr h h2)
    · exact ordv_ir _ h2
/-- Literals that rise. -/
def Rise (xs : List Int) : Prop := xs.Pairwise fun x y => ordv x y < 0
theorem srt_sorted (xs : List Int) : (srt xs).Pairwise fun x y => (!ltB y x) = true := by
  refine List.pairwise_mergeSort (fun a b c h1 h2 => ?_) (fun a b => ?_) xs
  · rw [ltB_le] at *
    rcases h1 with h1 | rfl
    · rcases h2 with h2 | rfl
      · exact .inl (ordv_tr h1 h2)
      · exact .inl h1
    · exact h2
  · rw [Bool.or_eq_true, ltB_le, ltB_le]
    rcases ordv_tri a b with h | h | h
    · exact .inl (.inl h)
    · exact .inl (.inr h)
    · exact .inr (.inl h)
theorem cmpct_rise {xs : List Int} (h : xs.Pairwise fun x y => (!ltB y x) = true) : Rise (cmpct xs) := by
  unfold Rise cmpct Lib.compactUpTo
  rw [List.pairwise_map]
  have hr : ((List.range xs.toArray.size).filter (Lib.keeps xs.toArray)).Pairwise (· < ·) := List.Pairwise.filter _ List.pairwise_lt_range
  refine List.Pairwise.imp_of_mem ?_ hr
  intro i j hi hj hij
  rw [List.mem_filter, List.mem_range] at hi hj
  have hjl : j < xs.length := by simpa using hj.1
  have e1 : xs.toArray[i]! = xs[i] := by simp [getElem!_pos, Nat.lt_trans hij hjl]
  have e2 : xs.toArray[j]! = xs[j] := by simp [getElem!_pos, hjl]
  have e3 : xs.toArray[j - 1]! = xs[j - 1] := by simp [getElem!_pos, Nat.lt_of_le_of_lt (Nat.sub_le j 1) hjl]
  have hk : xs[j] ≠ xs[j - 1] := by
    have := hj.2
    simp only [Lib.keeps, decide_eq_true_eq] at this
    rw [e2, e3] at this
    rcases this with h0 | h0
    · omega
    · exact h0
  rw [e1, e2]
  have h1 : ordv xs[j - 1] xs[j] < 0 := by
    have := (List.pairwise_iff_getElem.1 h) (j - 1) j (by omega) hjl (by omega)
    rcases (ltB_le _ _).1 this with h1 | h1
    · exact h1
    · exact absurd h1.symm hk
  by_cases hi1 : i = j - 1
  · subst hi1; exact h1
  · have := (List.pairwise_iff_getElem.1 h) i (j - 1) (by omega) (by omega) (by omega)
    rcases (ltB_le _ _).1 this with h2 | h2
    · exact ordv_tr h2 h1
    · rw [h2]; exact h1
/-! ## Tidied clauses -/
end Go.Proofs.Ythhmjfjkbmmcaaa
/- Normal forms by insertion: what the answer by definition builds is what lits.Normal builds. -/
namespace Go.Proofs.Ythhmjfjkbmmcaaa
open Go.RowKit Go.Proofs.YthhmjfjkbmmcaaaW.PrintWords Go.Proofs.YthhmjfjkbmmcaaaW.PrintLast Go.Proofs.YthhmjfjkbmmcaaaW.PrintMore
set_option linter.unusedVariables false
set_option linter.unusedSimpArgs false

/-- In order by variables, each variable once. -/
def RiseV (xs : List Int) : Prop := xs.Pairwise fun x y => vr x < vr y
theorem vr_eq {x y : Int} (h : vr x = vr y) : x = y ∨ x = -y := by unfold vr at h; split at h <;> split at h <;> omega
theorem vr_neg (x : Int) : vr (-x) = vr x := by unfold vr; split <;> split <;> omega
theorem riseV_uniq : ∀ {L L' : List Int}, RiseV L → RiseV L' → (∀ y, y ∈ L ↔ y ∈ L') → L = L'
  | [], [], _, _, _ => rfl
  | [], y :: L', _, _, h => absurd ((h y).2 (List.mem_cons_self ..)) (by simp)
  | x :: L, [], _, _, h => absurd ((h x).1 (List.mem_cons_self ..)) (by simp)
  | x :: L, y :: L', h1, h2, h => by
    obtain ⟨a1, a2⟩ := List.pairwise_cons.1 h1
    obtain ⟨b1, b2⟩ := List.pairwise_cons.1 h2
    obtain rfl : x = y := by
      rcases List.mem_cons.1 ((h x).1 (List.mem_cons_self ..)) with e | hx
      · exact e
      · rcases List.mem_cons.1 ((h y).2 (List.mem_cons_self ..)) with e | hy
        · exact e.symm
        · have := b1 x hx; have := a1 y hy; omega
    rw [riseV_uniq a2 b2 (fun z => ⟨fun hz => by
      rcases List.mem_cons.1 ((h z).1 (List.mem_cons_of_mem _ hz)) with e | hz'
      · subst e; have := a1 z hz; omega
      · exact hz', fun hz => by
      rcases List.mem_cons.1 ((h z).2 (List.mem_cons_of_mem _ hz)) with e | hz'
      · subst e; have := b1 z hz; omega
      · exact hz'⟩)]
theorem tw_mem {p : Int → Bool} : ∀ {l : List Int} {y : Int}, y ∈ l.takeWhile p → p y = true
  | [], y, h => by simp at h
  | x :: l, y, h => by
    rw [List.takeWhile_cons] at h
    split at h
    · rename_i hp
      rcases List.mem_cons.1 h with rfl | h
      · exact hp
      · exact tw_mem h
    · cases h
theorem dw_head {p : Int → Bool} : ∀ {l t : List Int} {y : Int}, l.dropWhile p = y :: t → p y = false
  | [], t, y, h => by simp at h
  | x :: l, t, y, h => by
    rw [List.dropWhile_cons] at h
    split at h
    · exact dw_head h
    · rename_i hp
      injection h with h1 h2
      subst h1
      simpa using hp
theorem putAt_split (l : List Int) (x : Int) : l.take (putAt l x) = (l.takeWhile fun y => decide (vr y < vr x)) ∧ l.drop (putAt l x) = (l.dropWhile fun y => decide (vr y < vr x)) := by
  have h := List.takeWhile_append_dropWhile (p := fun y => decide (vr y < vr x)) (l := l)
  unfold putAt
  generalize l.takeWhile (fun y => decide (vr y < vr x)) = A at h ⊢
  generalize l.dropWhile (fun y => decide (vr y < vr x)) = B at h ⊢
  subst h
  simp
theorem putv_spec {l : List Int} (hl : RiseV l) (x : Int) : (∃ l', putv l x = (l', true) ∧ RiseV l' ∧ ∀ y, y ∈ l' ↔ y ∈ l ∨ y = x) ∨ (putv l x = (l, false) ∧ -x ∈ l ∧ x ≠ -x) := by
  obtain ⟨h1, h2⟩ := putAt_split l x
  unfold putv
  by_cases hk : putAt l x < l.length ∧ vr (rd l (putAt l x : Int)) = vr x
  · rw [if_pos hk, rd_nat hk.1]
    have hv := hk.2
    rw [rd_nat hk.1] at hv
    by_cases e : l[putAt l x]'hk.1 = x
    · refine .inl ⟨l, by rw [decide_eq_true e], hl, fun y => ⟨.inl, fun h => ?_⟩⟩
      rcases h with h | rfl
      · exact h
      · exact e ▸ List.getElem_mem hk.1
    · have e2 : l[putAt l x]'hk.1 = -x := (vr_eq hv).resolve_left e
      refine .inr ⟨by rw [decide_eq_false e], e2 ▸ List.getElem_mem hk.1, fun h => e (e2.trans h.symm)⟩
  · rw [if_neg hk]
    refine .inl ⟨_, rfl, ?_, fun y => ?_⟩
    · have hA : ∀ y ∈ l.take (putAt l x), vr y < vr x := fun y hy => by
        rw [h1] at hy
        exact of_decide_eq_true (tw_mem (p := fun y => decide (vr y < vr x)) hy)
      have hB : ∀ y ∈ l.drop (putAt l x), vr x < vr y := by
        rcases Nat.lt_or_ge (putAt l x) l.length with hlt | hge
        · have hne : ¬ vr (l[putAt l x]'hlt) = vr x := fun h => hk ⟨hlt, by rw [rd_nat hlt]; exact h⟩
          have hge' : ¬ vr (l[putAt l x]'hlt) < vr x := by
            intro h
            have h3 : (l.dropWhile fun y => decide (vr y < vr x)) = l[putAt l x]'hlt :: l.drop (putAt l x + 1) := by rw [← h2]; exact List.drop_eq_getElem_cons hlt
            have h4 := dw_head (p := fun y => decide (vr y < vr x)) h3
            simp [h] at h4
          have hp : RiseV (l.drop (putAt l x)) := List.Pairwise.sublist (List.drop_sublist _ _) hl
          rw [List.drop_eq_getElem_cons hlt] at hp ⊢
          obtain ⟨p1, _⟩ := List.pairwise_cons.1 hp
          intro y hy
          rcases List.mem_cons.1 hy with rfl | hy
          · omega
          · have := p1 y hy; omega
        · rw [List.drop_eq_nil_of_le hge]
          intro y hy
          cases hy
      refine List.pairwise_append.2 ⟨List.pairwise_append.2 ⟨List.Pairwise.sublist (List.take_sublist _ _) hl, List.pairwise_singleton _ _, fun a ha b hb => ?_⟩, List.Pairwise.sublist (List.drop_sublist _ _) hl, fun a ha b hb => ?_⟩
      · obtain rfl := List.mem_singleton.1 hb
        exact hA a ha
      · rcases List.mem_append.1 ha with ha | ha
        · have := hA a ha; have := hB b hb; omega
        · obtain rfl := List.mem_singleton.1 ha
          exact hB b hb
    · have hm : y ∈ l ↔ y ∈ l.take (putAt l x) ∨ y ∈ l.drop (putAt l x) := by rw [← List.mem_append, List.take_append_drop]
      rw [hm, List.mem_append, List.mem_append, List.mem_singleton]
      constructor
      · rintro ((h | h) | h)
        · exact .inl (.inl h)
        · exact .inr h
        · exact .inl (.inr h)
      · rintro ((h | h) | h)
        · exact .inl (.inl h)
        · exact .inr h
        · exact .inl (.inr h)
/-- What a normal form is of. -/
def NfOf (xs : List Int) (r : List Int × Bool) : Prop := (r = ([], false) ∧ ∃ x ∈ xs, -x ∈ xs ∧ x ≠ -x) ∨ ∃ L, r = (L, true) ∧ RiseV L ∧ ∀ y, y ∈ L ↔ y ∈ xs
theorem nfOf_uniq {xs : List Int} {r r' : List Int × Bool} (h : NfOf xs r) (h' : NfOf xs r') : r = r' := by
  have hno : ∀ L : List Int, RiseV L → (∀ y, y ∈ L ↔ y ∈ xs) → (∃ x ∈ xs, -x ∈ xs ∧ x ≠ -x) → False := by
    rintro L hL hm ⟨x, h1, h2, h3⟩
    have a := (hm x).2 h1
    have b := (hm (-x)).2 h2
    obtain ⟨i, hi, ei⟩ := List.getElem_of_mem a
    obtain ⟨j, hj, ej⟩ := List.getElem_of_mem b
    have hq := List.pairwise_iff_getElem.1 hL
    have hv := vr_neg x
    rcases Nat.lt_trichotomy i j with hij | hij | hij
    · have := hq i j hi hj hij
      rw [ei, ej] at this
      omega
    · subst hij
      exact h3 (ei.symm.trans ej)
    · have := hq j i hj hi hij
      rw [ei, ej] at this
      omega
  rcases h with ⟨rfl, hc⟩ | ⟨L, rfl, hL, hm⟩
  · rcases h' with ⟨rfl, _⟩ | ⟨L', rfl, hL', hm'⟩
    · rfl
    · exact (hno L' hL' hm' hc).elim
  · rcases h' with ⟨rfl, hc⟩ | ⟨L', rfl, hL', hm'⟩
    · exact (hno L hL hm hc).elim
    · rw [riseV_uniq hL hL' (fun y => (hm y).trans (hm' y).symm)]

theorem cmpct_all {xs : List Int} : ∀ (j : Nat) (h : j < xs.length), xs[j] ∈ cmpct xs
  | j, h => by
    by_cases hk : Lib.keeps xs.toArray j = true
    · unfold cmpct Lib.compactUpTo
      rw [List.mem_map]
      exact ⟨j, List.mem_filter.2 ⟨List.mem_range.2 (by simpa using h), hk⟩, by simp [getElem!_pos, h]⟩
    · unfold Lib.keeps at hk
      rw [decide_eq_true_eq] at hk
      have h0 : j ≠ 0 := fun e => hk (.inl e)
      have e : xs.toArray[j]! = xs.toArray[j - 1]! := Decidable.not_not.1 fun e => hk (.inr e)
      have hj1 : j - 1 < xs.length := by omega
      have e2 : xs.toArray[j]! = xs[j] := by simp [getElem!_pos, h]
      have e3 : xs.toArray[j - 1]! = xs[j - 1] := by simp [getElem!_pos, hj1]
      rw [e2, e3] at e
      rw [e]
      exact cmpct_all (j - 1) hj1
termination_by j => j
theorem clash_true {ys : List Int} : ∀ {k i : Nat}, clashFrom ys k i = true → ∃ j, j + 1 < ys.length ∧ rd ys (j : Int) = -(rd ys ((j + 1 : Nat) : Int))
  | 0, i, h => by simp [clashFrom] at h
  | k + 1, i, h => by
    rw [clashFrom] at h
    split at h
    · rename_i h1
      split at h
      · rename_i h2
        exact ⟨i, h1, h2⟩
      · exact clash_true h
    · cases h
theorem clash_false {ys : List Int} : ∀ {k i : Nat}, clashFrom ys k i = false → ys.length < k + i → ∀ j, i ≤ j → j + 1 < ys.length → rd ys (j : Int) ≠ -(rd ys ((j + 1 : Nat) : Int))
  | 0, i, h, hk, j, h1, h2 => by omega
  | k + 1, i, h, hk, j, h1, h2 => by
    rw [clashFrom, if_pos (by omega)] at h
    split at h
    · cases h
    · rename_i h3
      rcases Nat.eq_or_lt_of_le h1 with rfl | h4
      · exact h3
      · exact clash_false h (by omega) j h4 h2
theorem nrm_nfOf (xs : List Int) : NfOf xs (nrm xs) := by
  have hR : Rise (cmpct (srt xs)) := cmpct_rise (srt_sorted xs)
  have hm : ∀ y, y ∈ cmpct (srt xs) ↔ y ∈ xs := fun y => ⟨fun h => srt_mem.1 (cmpct_mem h), fun h => by
    obtain ⟨j, hj, rfl⟩ := List.getElem_of_mem (srt_mem.2 h)
    exact cmpct_all j hj⟩
  unfold nrm
  generalize cmpct (srt xs) = ys at hR hm
  have hp := List.pairwise_iff_getElem.1 hR
  split
  · rename_i hc
    obtain ⟨j, hj, e⟩ := clash_true hc
    rw [rd_nat (by omega), rd_nat hj] at e
    have h1 : ys[j] ∈ xs := (hm _).1 (List.getElem_mem _)
    have h2 : ys[j + 1] ∈ xs := (hm _).1 (List.getElem_mem hj)
    have h3 := hp j (j + 1) (by omega) hj (by omega)
    refine .inl ⟨rfl, ys[j], h1, ?_, fun h => ?_⟩
    · rw [e, Int.neg_neg]; exact h2
    · rw [e, Int.neg_neg] at h
      rw [e, h] at h3
      exact ordv_ir _ h3
  · rename_i hc
    have hc' := clash_false ((Bool.not_eq_true _).mp hc) (by omega)
    refine .inr ⟨ys, rfl, List.pairwise_iff_getElem.2 fun i j hi hj hij => ?_, hm⟩
    rcases (ordv_neg _ _).1 (hp i j hi hj hij) with h | ⟨h, h'⟩
    · exact h
    · exfalso
      have hi1 : i + 1 < ys.length := by omega
      have a := (ordv_neg _ _).1 (hp i (i + 1) hi hi1 (by omega))
      have b : vr ys[i + 1] ≤ vr ys[j] := by
        rcases Nat.eq_or_lt_of_le (show i + 1 ≤ j from hij) with e | e
        · subst e; exact Int.le_refl _
        · rcases (ordv_neg _ _).1 (hp (i + 1) j hi1 hj e) with h | ⟨h, _⟩ <;> omega
      rcases a with a | ⟨a, a'⟩
      · omega
      · rcases vr_eq a with e | e
        · omega
        · exact hc' i (Nat.zero_le _) hi1 (by rw [rd_nat hi, rd_nat hi1]; exact e)
theorem putv_length (l : List Int) (x : Int) : (putv l x).1.length ≤ l.length + 1 := by
  unfold putv
  split
  · simp
  · simp only [List.length_append, List.length_singleton, List.length_take, List.length_drop]
    omega
theorem form0_loop (xs : List Int) (hs : ∀ x ∈ xs, Sml x) (hl : xs.length ≤ 1099511627776) : ∀ k i out, i ≤ xs.length → xs.length < k + i → RiseV out → (∀ y, y ∈ out ↔ y ∈ xs.take i) → out.length ≤ i → ∃ r, GCO.trestleref01_Form0.l0 k xs out (i : Int) = some r ∧ NfOf xs r := by
  intro k
  induction k with
  | zero => intro i out h1 h2; omega
  | succ k ih =>
    intro i out h1 h2 hr hm ho
    unfold GCO.trestleref01_Form0.l0
    by_cases hlt : i < xs.length
    · have hw : wrap64 ((i : Int) + 1) = ((i + 1 : Nat) : Int) := by unfold wrap64; omega
      have hrd : rd xs (i : Int) = xs[i] := rd_nat hlt
      have hput : GCO.trestleref01_Put.f out xs[i] = some (putv out xs[i]) := if_pos ⟨fun y hy => hs y (List.mem_of_mem_take ((hm y).1 hy)), hs _ (List.getElem_mem hlt), by omega⟩
      rw [if_pos (by omega), if_pos (by omega), hrd, hput, Option.bind_some, hw]
      have hpl := putv_length out xs[i]
      rcases putv_spec hr xs[i] with ⟨l', e, hr', hm'⟩ | ⟨e, hc, hne⟩
      · rw [e, if_pos rfl]
        rw [e] at hpl
        refine ih (i + 1) l' hlt (by omega) hr' (fun y => ?_) (by simp only at hpl; omega)
        have ht : xs.take (i + 1) = xs.take i ++ [xs[i]] := by rw [List.take_add_one, List.getElem?_eq_getElem hlt]; rfl
        rw [hm', hm, ht, List.mem_append, List.mem_singleton]
      · rw [e, if_neg (by simp)]
        exact ⟨_, rfl, .inl ⟨rfl, xs[i], List.getElem_mem hlt, List.mem_of_mem_take ((hm _).1 hc), hne⟩⟩
    · obtain rfl : i = xs.length := by omega
      rw [if_neg (by omega)]
      rw [List.take_length] at hm
      exact ⟨_, rfl, .inr ⟨out, rfl, hr, hm⟩⟩
theorem form0_f (xs : List Int) (hs : ∀ x ∈ xs, Sml x) (hl : xs.length ≤ 1099511627776) {k : Nat} (hk : xs.length < k) : GCO.trestleref01_Form0.f k xs = some (nrm xs) := by
  obtain ⟨r, h1, h2⟩ := form0_loop xs hs hl k 0 [] (Nat.zero_le _) (by omega) List.Pairwise.nil (by simp) (by simp)
  rw [nfOf_uniq (nrm_nfOf xs) h2]
  exact h1

end Go.Proofs.Ythhmjfjkbmmcaaa
/- The printed tidy of the answer by definition, closed. -/
namespace Go.Proofs.Ythhmjfjkbmmcaaa
open Go.RowKit Go.Proofs.YthhmjfjkbmmcaaaW.PrintWords Go.Proofs.YthhmjfjkbmmcaaaW.PrintLast Go.Proofs.YthhmjfjkbmmcaaaW.PrintMore
set_option linter.unusedVariables false
set_option linter.unusedSimpArgs false

theorem sameInts_eq_loop (xs ys : List Int) (he : xs.length = ys.length) (hl : xs.length ≤ 1099511627776) : ∀ k i, i ≤ xs.length → xs.length < k + i → GCO.trestlebook_SameInts.l0 k xs ys (i : Int) = some (decide (xs.drop i = ys.drop i)) := by
  intro k
  induction k with
  | zero => intro i h1 h2; omega
  | succ k ih =>
    intro i h1 h2
    unfold GCO.trestlebook_SameInts.l0
    by_cases hlt : i < xs.length
    · have hlt2 : i < ys.length := by omega
      have hw : wrap64 ((i : Int) + 1) = ((i + 1 : Nat) : Int) := by unfold wrap64; omega
      have hd : (xs.drop i = ys.drop i) ↔ (xs[i] = ys[i] ∧ xs.drop (i + 1) = ys.drop (i + 1)) := by rw [List.drop_eq_getElem_cons hlt, List.drop_eq_getElem_cons hlt2, List.cons.injEq]
      rw [if_pos (by omega), if_pos (by omega), if_pos (by omega), rd_nat hlt, rd_nat hlt2, hw, ih (i + 1) hlt (by omega)]
      by_cases e : xs[i] = ys[i]
      · rw [if_pos e]
        congr 1
        rw [decide_eq_decide, hd]
        exact ⟨fun h => ⟨e, h⟩, fun h => h.2⟩
      · rw [if_neg e, decide_eq_false (fun h => e (hd.1 h).1)]
    · obtain rfl : i = xs.length := by omega
      rw [if_neg (by omega), List.drop_length, List.drop_eq_nil_of_le (by omega)]
      simp
theorem sameClause_f (xs ys : List Int) (hl : xs.length ≤ 1099511627776) {k : Nat} (hk : xs.length < k) : GCO.trestlebook_SameClause.f k xs ys = some (decide (xs = ys)) := by
  unfold GCO.trestlebook_SameClause.f GCO.trestlebook_SameInts.f
  by_cases he : xs.length = ys.length
  · rw [if_pos (by omega)]
    have := sameInts_eq_loop xs ys he hl k 0 (Nat.zero_le _) (by omega)
    rw [List.drop_zero, List.drop_zero] at this
    rw [show (0 : Int) = ((0 : Nat) : Int) from rfl, this]
    rfl
  · rw [if_neg (by omega)]
    simp only [Option.bind_some]
    rw [decide_eq_false (fun e => he (by rw [e]))]
/-- From some fuel on. -/
def Ev {α : Type} (f : Nat → Option α) (r : α) : Prop := ∃ K, ∀ k, K ≤ k → f k = some r
theorem Ev.step {α : Type} {f g : Nat → Option α} {r : α} (K : Nat) (h : ∀ k, K ≤ k → f (k + 1) = g k) (hg : Ev g r) : Ev f r := by
  obtain ⟨K', h'⟩ := hg
  refine ⟨max K K' + 1, fun k hk => ?_⟩
  obtain ⟨k, rfl⟩ : ∃ k', k = k' + 1 := ⟨k - 1, by omega⟩
  rw [h k (by omega), h' k (by omega)]
theorem Ev.const {α : Type} {f : Nat → Option α} {r : α} (K : Nat) (h : ∀ k, K ≤ k → f (k + 1) = some r) : Ev f r := Ev.step (g := fun _ => some r) K h ⟨0, fun _ _ => rfl⟩
theorem tidy_l1 (x0 out r : List (List Int)) (x4 : Int) (c : List Int) (ho : ∀ d ∈ out, d.length ≤ 16384) (hl : out.length ≤ 4398046511104)
    (hA : c ∉ out → Ev (fun k => GCO.trestleref19_tidy.l0 k x0 (out ++ [c]) (wrap64 (x4 + 1))) r) (hB : c ∈ out → Ev (fun k => GCO.trestleref19_tidy.l0 k x0 out (wrap64 (x4 + 1))) r) :
    ∀ d j (b : Bool), j + d = out.length → (b = true → c ∉ out.take j) → (b = false → c ∈ out) → Ev (fun k => GCO.trestleref19_tidy.l1 k x0 out x4 c b (j : Int)) r := by
  intro d
  induction d with
  | zero =>
    intro j b hj h1 h2
    cases b with
    | false => exact Ev.step 0 (fun k _ => by rw [GCO.trestleref19_tidy.l1, if_neg (by decide)]) (hB (h2 rfl))
    | true =>
      obtain rfl : j = out.length := by omega
      have := h1 rfl
      rw [List.take_length] at this
      exact Ev.step 0 (fun k _ => by rw [GCO.trestleref19_tidy.l1, if_pos rfl, if_neg (by omega), if_pos (by omega)]) (hA this)
  | succ d ih =>
    intro j b hj h1 h2
    cases b with
    | false => exact Ev.step 0 (fun k _ => by rw [GCO.trestleref19_tidy.l1, if_neg (by decide)]) (hB (h2 rfl))
    | true =>
      have hlt : j < out.length := by omega
      have hr : GCO.rd_L1 out (j : Int) = out[j] := by simp [GCO.rd_L1, hlt]
      have hln := ho _ (List.getElem_mem hlt)
      have ht : out.take (j + 1) = out.take j ++ [out[j]] := by rw [List.take_add_one, List.getElem?_eq_getElem hlt]; rfl
      have hw : wrap64 ((j : Int) + 1) = ((j + 1 : Nat) : Int) := by unfold wrap64; omega
      refine Ev.step 16385 (g := fun k => GCO.trestleref19_tidy.l1 k x0 out x4 c (!decide (out[j] = c)) ((j + 1 : Nat) : Int)) (fun k hk => ?_) (ih (j + 1) _ (by omega) (fun h => ?_) (fun h => ?_))
      · rw [GCO.trestleref19_tidy.l1, if_pos rfl, if_pos (by omega), if_pos (by omega), hr, sameClause_f _ _ (by omega) (by omega), Option.bind_some, hw]
      · have hne : ¬ out[j] = c := by simpa using h
        rw [ht, List.mem_append, List.mem_singleton]
        rintro (h | h)
        · exact h1 rfl h
        · exact hne h.symm
      · have he : out[j] = c := by simpa using h
        exact he ▸ List.getElem_mem hlt
theorem good_sml {c : List Int} (h : Good c) : ∀ x ∈ c, Sml x := fun x hx => by obtain ⟨_, h1, h2⟩ := h.2 x hx; exact ⟨by omega, by omega⟩
theorem tidy_l0 (ls : List (List Int)) (hg : ∀ l ∈ ls, Good l) (hl : ls.length ≤ 4398046511104) : ∀ d i out, i + d = ls.length → out.length ≤ i → (∀ c ∈ out, c.length ≤ 16384) → Ev (fun k => GCO.trestleref19_tidy.l0 k ls out (i : Int)) ((ls.drop i).foldl tidyStep out) := by
  intro d
  induction d with
  | zero =>
    intro i out hi ho hc
    obtain rfl : i = ls.length := by omega
    rw [List.drop_length]
    exact Ev.const 0 (fun k _ => by rw [GCO.trestleref19_tidy.l0, if_neg (by omega)]; rfl)
  | succ d ih =>
    intro i out hi ho hc
    have hlt : i < ls.length := by omega
    have hr : GCO.rd_L1 ls (i : Int) = ls[i] := by simp [GCO.rd_L1, hlt]
    have hgd := hg _ (List.getElem_mem hlt)
    have hw : wrap64 ((i : Int) + 1) = ((i + 1 : Nat) : Int) := by unfold wrap64; omega
    have hf : ∀ k, 16385 ≤ k → GCO.trestleref01_Form0.f k ls[i] = some (nrm ls[i]) := fun k hk => form0_f _ (good_sml hgd) (by have := hgd.1; omega) (by have := hgd.1; omega)
    have hnl := nrm_length ls[i]
    rw [List.drop_eq_getElem_cons hlt, List.foldl_cons]
    cases hn : (nrm ls[i]).2 with
    | false =>
      have hs : tidyStep out ls[i] = out := by unfold tidyStep; rw [hn]; rfl
      rw [hs]
      refine Ev.step 16385 (g := fun k => GCO.trestleref19_tidy.l0 k ls out ((i + 1 : Nat) : Int)) (fun k hk => ?_) (ih (i + 1) out (by omega) (by omega) hc)
      rw [GCO.trestleref19_tidy.l0, if_pos (by omega), if_pos (by omega), hr, hf k hk, Option.bind_some, hn, if_neg (by decide), hw]
    | true =>
      refine Ev.step 16385 (g := fun k => GCO.trestleref19_tidy.l1 k ls out (i : Int) (nrm ls[i]).1 true ((0 : Nat) : Int)) (fun k hk => ?_) (tidy_l1 ls out _ (i : Int) (nrm ls[i]).1 hc (by omega) (fun hno => ?_) (fun hyes => ?_) out.length 0 true (by omega) (fun _ => by simp) (fun h => by cases h))
      · rw [GCO.trestleref19_tidy.l0, if_pos (by omega), if_pos (by omega), hr, hf k hk, Option.bind_some, hn, if_pos rfl]
        rfl
      · have hs : tidyStep out ls[i] = out ++ [(nrm ls[i]).1] := by unfold tidyStep; rw [hn, if_pos rfl, if_neg hno]
        rw [hs, hw]
        refine ih (i + 1) _ (by omega) (by rw [List.length_append, List.length_singleton]; omega) (fun c h => ?_)
        rcases List.mem_append.1 h with h | h
        · exact hc c h
        · obtain rfl := List.mem_singleton.1 h
          have := hgd.1
          omega
      · have hs : tidyStep out ls[i] = out := by unfold tidyStep; rw [hn, if_pos rfl, if_pos hyes]
        rw [hs, hw]
        exact ih (i + 1) out (by omega) (by omega) hc
theorem refTidy_f (ls : List (List Int)) (hg : ∀ l ∈ ls, Good l) (hl : ls.length ≤ 4398046511104) : Ev (fun k => GCO.trestleref19_tidy.f k ls) (tidyv ls) := by
  have := tidy_l0 ls hg hl ls.length 0 [] (by omega) (by simp) (by simp)
  rw [List.drop_zero] at this
  exact this

end Go.Proofs.Ythhmjfjkbmmcaaa
/- The printed Resolve of the answer by definition, closed. -/
namespace Go.Proofs.Ythhmjfjkbmmcaaa
open Go.RowKit Go.Proofs.YthhmjfjkbmmcaaaW.PrintWords Go.Proofs.YthhmjfjkbmmcaaaW.PrintLast Go.Proofs.YthhmjfjkbmmcaaaW.PrintMore
set_option linter.unusedVariables false
set_option linter.unusedSimpArgs false

theorem nrm_rise {xs : List Int} (h : (nrm xs).2 = true) : Rise (nrm xs).1 := by
  have hR := cmpct_rise (srt_sorted xs)
  unfold nrm at h ⊢
  split at h
  · cases h
  · rename_i hc
    rw [if_neg hc]
    exact hR
theorem isForm_f {x : Int} (h : LitOk x) : GCO.trestleref01_IsForm.f x = some true := by
  obtain ⟨h0, h1, h2⟩ := h
  unfold GCO.trestleref01_IsForm.f
  rw [if_neg h0, if_pos (by omega), decide_eq_true (by omega)]
theorem wrong_loop (xs : List Int) (hg : Good xs) : ∀ k i, i ≤ xs.length → xs.length < k + i → GCO.trestleref01_Wrong.l0 k xs (i : Int) = some 0 := by
  intro k
  induction k with
  | zero => intro i h1 h2; omega
  | succ k ih =>
    intro i h1 h2
    have hln := hg.1
    unfold GCO.trestleref01_Wrong.l0
    by_cases hlt : i < xs.length
    · have hw : wrap64 ((i : Int) + 1) = ((i + 1 : Nat) : Int) := by unfold wrap64; omega
      rw [if_pos (by omega), if_pos (by omega), rd_nat hlt, isForm_f (hg.2 _ (List.getElem_mem hlt)), Option.bind_some, if_pos rfl, hw]
      exact ih (i + 1) hlt (by omega)
    · rw [if_neg (by omega)]
theorem wrong_f (xs : List Int) (hg : Good xs) {k : Nat} (hk : 16384 < k) : GCO.trestleref01_Wrong.f k xs = some 0 := by
  have hln := hg.1
  unfold GCO.trestleref01_Wrong.f
  rw [if_neg (by omega)]
  exact wrong_loop xs hg k 0 (Nat.zero_le _) (by omega)
theorem without_loop (xs : List Int) (x : Int) (hl : xs.length ≤ 1099511627776) : ∀ k i, i ≤ xs.length → xs.length < k + i → GCO.trestleref01_Without.l0 k xs x ((xs.take i).filter fun y => decide (y ≠ x)) (i : Int) = some (xs.filter fun y => decide (y ≠ x)) := by
  intro k
  induction k with
  | zero => intro i h1 h2; omega
  | succ k ih =>
    intro i h1 h2
    unfold GCO.trestleref01_Without.l0
    by_cases hlt : i < xs.length
    · have hw : wrap64 ((i : Int) + 1) = ((i + 1 : Nat) : Int) := by unfold wrap64; omega
      have ht : xs.take (i + 1) = xs.take i ++ [xs[i]] := by rw [List.take_add_one, List.getElem?_eq_getElem hlt]; rfl
      have hfl : ((xs.take i).filter fun y => decide (y ≠ x)).length ≤ i := Nat.le_trans (List.length_filter_le _ _) (List.length_take_le _ _)
      have := ih (i + 1) hlt (by omega)
      rw [ht, List.filter_append] at this
      rw [if_pos (by omega), if_pos (by omega), rd_nat hlt, hw]
      by_cases e : xs[i] = x
      · rw [if_pos e, ← this]
        simp [e]
      · rw [if_neg e, if_pos (by omega), ← this]
        simp [e]
    · obtain rfl : i = xs.length := by omega
      rw [if_neg (by omega), List.take_length]
theorem without_f (xs : List Int) (x : Int) (hl : xs.length ≤ 1099511627776) {k : Nat} (hk : xs.length < k) : GCO.trestleref01_Without.f k xs x = some (xs.filter fun y => decide (y ≠ x)) := by
  have := without_loop xs x hl k 0 (Nat.zero_le _) (by omega)
  rw [List.take_zero] at this
  exact this

theorem bs_loop {xs : List Int} (hR : Rise xs) (x : Int) : ∀ k i j, i ≤ j → j ≤ xs.length → j < k + i → (∀ t (h : t < xs.length), t < i → ordv xs[t] x < 0) → (∀ t (h : t < xs.length), j ≤ t → ¬ ordv xs[t] x < 0) →
    bsLoop xs x k i j ≤ xs.length ∧ (∀ t (h : t < xs.length), t < bsLoop xs x k i j → ordv xs[t] x < 0) ∧ ∀ t (h : t < xs.length), bsLoop xs x k i j ≤ t → ¬ ordv xs[t] x < 0 := by
  have hp := List.pairwise_iff_getElem.1 hR
  intro k
  induction k with
  | zero => intro i j h1 h2 h3; omega
  | succ k ih =>
    intro i j h1 h2 h3 ha hb
    rw [bsLoop]
    by_cases hlt : i < j
    · have hm : (i + j) / 2 < xs.length := by omega
      rw [if_pos hlt, rd_nat hm]
      by_cases hc : ordv xs[(i + j) / 2] x < 0
      · rw [if_pos hc]
        refine ih _ j (by omega) h2 (by omega) (fun t h ht => ?_) hb
        rcases Nat.lt_or_ge t ((i + j) / 2) with h4 | h4
        · exact ordv_tr (hp t _ h hm h4) hc
        · obtain rfl : t = (i + j) / 2 := by omega
          exact hc
      · rw [if_neg hc]
        refine ih i _ (by omega) (by omega) (by omega) ha (fun t h ht hc' => ?_)
        rcases Nat.eq_or_lt_of_le ht with h4 | h4
        · subst h4; exact hc hc'
        · exact hc (ordv_tr (hp _ t hm h h4) hc')
    · rw [if_neg hlt]
      obtain rfl : i = j := by omega
      exact ⟨h2, ha, hb⟩
theorem bs_at {xs : List Int} (hR : Rise xs) (x : Int) : bsAt xs x ≤ xs.length ∧ (∀ t (h : t < xs.length), t < bsAt xs x → ordv xs[t] x < 0) ∧ ∀ t (h : t < xs.length), bsAt xs x ≤ t → ¬ ordv xs[t] x < 0 :=
  bs_loop hR x (xs.length + 1) 0 xs.length (Nat.zero_le _) (Nat.le_refl _) (by omega) (fun t _ h => by omega) (fun t h h' => by omega)
theorem ordv_zero {x y : Int} (h : ordv x y = 0) : x = y := by
  unfold ordv at h
  split at h <;> omega
theorem bsHas_iff {xs : List Int} (hR : Rise xs) (x : Int) : bsHas xs x = true ↔ x ∈ xs := by
  obtain ⟨h1, h2, h3⟩ := bs_at hR x
  have hp := List.pairwise_iff_getElem.1 hR
  unfold bsHas
  rw [Bool.and_eq_true, decide_eq_true_eq, decide_eq_true_eq]
  constructor
  · rintro ⟨ha, hb⟩
    rw [rd_nat ha] at hb
    exact ordv_zero hb ▸ List.getElem_mem ha
  · intro hx
    obtain ⟨t, ht, e⟩ := List.getElem_of_mem hx
    have hge : bsAt xs x ≤ t := by
      rcases Nat.lt_or_ge t (bsAt xs x) with h | h
      · have := h2 t ht h
        rw [e] at this
        exact (ordv_ir _ this).elim
      · exact h
    rcases Nat.eq_or_lt_of_le hge with h | h
    · refine ⟨by omega, ?_⟩
      rw [h, rd_nat ht, e]
      unfold ordv
      rw [if_pos rfl]
      omega
    · have := hp _ t (Nat.lt_trans h ht) ht h
      rw [e] at this
      exact (h3 _ _ (Nat.le_refl _) this).elim
theorem dropv_filter {xs : List Int} (hR : Rise xs) (x : Int) : dropv xs x = xs.filter fun y => decide (y ≠ x) := by
  obtain ⟨h1, h2, h3⟩ := bs_at hR x
  have hp := List.pairwise_iff_getElem.1 hR
  unfold dropv
  split
  · rename_i hb
    have hx := (bsHas_iff hR x).1 hb
    unfold bsHas at hb
    rw [Bool.and_eq_true, decide_eq_true_eq, decide_eq_true_eq] at hb
    obtain ⟨ha, hb⟩ := hb
    rw [rd_nat ha] at hb
    have e := ordv_zero hb
    have hs : xs = xs.take (bsAt xs x) ++ (x :: xs.drop (bsAt xs x + 1)) := by
      have := List.take_append_drop (bsAt xs x) xs
      rw [List.drop_eq_getElem_cons ha, e] at this
      exact this.symm
    have hA : ∀ y ∈ xs.take (bsAt xs x), decide (y ≠ x) = true := fun y hy => by
      obtain ⟨t, ht, rfl⟩ := List.getElem_of_mem hy
      rw [List.length_take] at ht
      rw [List.getElem_take]
      have := h2 t (by omega) (by omega)
      refine decide_eq_true fun e => ?_
      rw [e] at this
      exact ordv_ir _ this
    have hB : ∀ y ∈ xs.drop (bsAt xs x + 1), decide (y ≠ x) = true := fun y hy => by
      obtain ⟨t, ht, rfl⟩ := List.getElem_of_mem hy
      rw [List.length_drop] at ht
      rw [List.getElem_drop]
      have := hp (bsAt xs x) (bsAt xs x + 1 + t) ha (by omega) (by omega)
      refine decide_eq_true fun e' => ?_
      rw [e, e'] at this
      exact ordv_ir _ this
    have hf : (xs.filter fun y => decide (y ≠ x)) = (xs.take (bsAt xs x) ++ (x :: xs.drop (bsAt xs x + 1))).filter fun y => decide (y ≠ x) := congrArg _ hs
    rw [hf, List.filter_append, List.filter_eq_self.2 hA, List.filter_cons_of_neg (by simp), List.filter_eq_self.2 hB]
  · rename_i hb
    have hx : x ∉ xs := fun h => hb ((bsHas_iff hR x).2 h)
    have hC : ∀ y ∈ xs, decide (y ≠ x) = true := fun y hy => decide_eq_true fun e => hx (e ▸ hy)
    exact (List.filter_eq_self.2 hC).symm
theorem has_bs {xs : List Int} (hR : Rise xs) (x : Int) : has xs x = bsHas xs x := by
  rw [Bool.eq_iff_iff, has_iff, bsHas_iff hR]
theorem resolve_f (a b : List Int) (v : Int) (ha : Good a) (hb : Good b) (hv : LitOk v) {k : Nat} (hk : 40000 < k) : GCO.trestleref01_Resolve.f k a b v = some (resv a b v) := by
  have la := ha.1
  have lb := hb.1
  have na := nrm_length a
  have nb := nrm_length b
  have hneg : wrap64 (-v) = -v := by obtain ⟨_, _, _⟩ := hv; unfold wrap64; omega
  obtain ⟨k, rfl⟩ : ∃ k', k = k' + 1 := ⟨k - 1, by omega⟩
  have hboth : GCO.trestleref01_both.f (k + 1) a b = some (pairv a b) := by
    unfold GCO.trestleref01_both.f
    rw [wrong_f a ha (by omega), Option.bind_some, if_pos rfl, wrong_f b hb (by omega), Option.bind_some, GCO.trestleref01_both.j0, if_pos rfl, form0_f a (good_sml ha) (by omega) (by omega), Option.bind_some, form0_f b (good_sml hb) (by omega) (by omega), Option.bind_some]
    unfold pairv
    cases h1 : (nrm a).2 <;> cases h2 : (nrm b).2 <;> rfl
  unfold GCO.trestleref01_Resolve.f
  rw [hboth, Option.bind_some]
  unfold resv
  by_cases h0 : (pairv a b).2.2 = 0
  · rw [if_pos h0, if_neg (c := (pairv a b).2.2 ≠ 0) (fun h => h h0), isForm_f hv, Option.bind_some, if_pos rfl]
    have hok : (nrm a).2 = true ∧ (nrm b).2 = true ∧ (pairv a b).1 = (nrm a).1 ∧ (pairv a b).2.1 = (nrm b).1 := by
      unfold pairv at h0 ⊢
      split at h0
      · rename_i h
        rw [if_pos h]
        rw [Bool.and_eq_true] at h
        exact ⟨h.1, h.2, rfl, rfl⟩
      · cases h0
    obtain ⟨o1, o2, o3, o4⟩ := hok
    have R1 := nrm_rise o1
    have R2 := nrm_rise o2
    have hmA : ∀ y ∈ (nrm a).1, Sml y := fun y hy => good_sml ha y (nrm_mem hy)
    have hmB : ∀ y ∈ (nrm b).1, Sml y := fun y hy => good_sml hb y (nrm_mem hy)
    rw [o3, o4, refHas_f _ _ (by omega) (by omega), Option.bind_some, has_bs R1, hneg]
    have hj : ∀ bb : Bool, GCO.trestleref01_Resolve.j0 (k + 1) v (nrm a).1 (nrm b).1 bb = some (if bb = true then ([], 11) else if (nrm (dropv (nrm a).1 v ++ dropv (nrm b).1 (-v))).2 = true then ((nrm (dropv (nrm a).1 v ++ dropv (nrm b).1 (-v))).1, 0) else ([], 10)) := fun bb => by
      rw [GCO.trestleref01_Resolve.j0]
      cases bb with
      | true => rfl
      | false =>
        have l1 : ((nrm a).1.filter fun y => decide (y ≠ v)).length ≤ 16384 := Nat.le_trans (List.length_filter_le _ _) (by omega)
        have l2 : ((nrm b).1.filter fun y => decide (y ≠ -v)).length ≤ 16384 := Nat.le_trans (List.length_filter_le _ _) (by omega)
        rw [if_neg (by decide), without_f _ _ (by omega) (by omega), Option.bind_some, hneg, without_f _ _ (by omega) (by omega), Option.bind_some, if_pos (by omega), dropv_filter R1, dropv_filter R2]
        rw [form0_f _ (fun y hy => by
          rcases List.mem_append.1 hy with h | h
          · exact hmA y (List.mem_filter.1 h).1
          · exact hmB y (List.mem_filter.1 h).1) (by rw [List.length_append]; omega) (by rw [List.length_append]; omega), Option.bind_some]
        split <;> rfl
    cases hA : bsHas (nrm a).1 v with
    | false =>
      rw [if_neg (by decide), hj]
      rfl
    | true =>
      rw [if_pos rfl, refHas_f _ _ (by omega) (by omega), Option.bind_some, has_bs R2, hj]
      cases hB : bsHas (nrm b).1 (-v) <;> rfl
  · have he : pairv a b = ([], [], 10) := by
      unfold pairv at h0 ⊢
      split at h0
      · exact (h0 rfl).elim
      · rename_i h
        rw [if_neg h]
    rw [if_neg h0, if_pos (c := (pairv a b).2.2 ≠ 0) h0]

end Go.Proofs.Ythhmjfjkbmmcaaa
-- written by a program of this session's own (gprint.py), after the kit's print
namespace Go.Proofs.Ythhmjfjkbmmcaaa.GCS
open Go.RowKit Go.Proofs.YthhmjfjkbmmcaaaW.PrintWords Go.Proofs.YthhmjfjkbmmcaaaW.PrintLast Go.Proofs.YthhmjfjkbmmcaaaW.PrintMore
attribute [local go_sem] max2_int min2_int max_two min_two max_three min_three max_four min_four   -- for this text's walks alone
set_option linter.unusedVariables false
set_option linter.unusedSimpArgs false

/-! ### trestlelaw19_large: function 5 -/
def trestlelaw19_large.l0 : Nat → Int → Int → Int → List (List Int) → Option (Bool)
  | 0, _, _, _, _ => none
  | k + 1, x3, x4, x102000, x102001 => if x4 < (x102001.length : Int) then (if 0 ≤ x4 then (trestlelaw19_large.l0 k (wrap64 (x3 + ((rd_L1 x102001 x4).length : Int))) (wrap64 (x4 + 1)) x102000 x102001) else (none)) else (if (x102001.length : Int) > 120 then (some true) else (some (decide (x3 > 20000))))
def trestlelaw19_large.f (k : Nat) (a0_0 : Int) (l0_1 : List (List Int)) : Option (Bool) := trestlelaw19_large.l0 k 0 0 a0_0 l0_1
set_option maxHeartbeats 8000000 in
set_option maxRecDepth 100000 in
theorem trestlelaw19_large.calls (k : Nat) (a0_0 : Int) (A0_1 : Option Addr) (c0_1 : Nat) (l0_1 : List (List Int)) (r : Bool) (w : World) (hr0_1 : Kd.C (Kd.slice 3 (Kd.int .i64)) w A0_1 l0_1.length l0_1) (hc0_1 : l0_1.length ≤ c0_1) (h : trestlelaw19_large.f k a0_0 l0_1 = some r) :
    Calls Try.prog 5 #[.agg #[.int .i64 a0_0, .slice A0_1 l0_1.length c0_1]] w fun e w' => e = .returned (.bool r) ∧ Below w.heap.size w w' := by
  have hu24 := Try.underlying24
  have HR0_1 := Aside0.mk hr0_1
  have HC0_1 := Aside0.mk hc0_1
  clear hr0_1 hc0_1
  have HB := Aside0.mk (Below.refl w.heap.size w)
  have H : (trestlelaw19_large.l0 k 0 0 a0_0 l0_1) = some r := h
  clear h
  have H' := Aside0.mk H
  clear H
  go_enter Try.func5, Try.ntmps5
  go_wp2_with (first | ((with_reducible refine gate_dst (N := 1) rfl ?_); refine box_event ?hg (N := 1) ?hd (cs := #[.int .i64 a0_0, .slice A0_1 l0_1.length c0_1]) (t := 24) ?hr ?_; (case hd => rfl); (case hg => rfl); (case hr => first | (go_simp; done) | (go_simp; rfl)); intro gb101 hg w2 hbox hb; have n0_ := Aside0.mk (below_step (by repeat (first | (with_reducible first | exact HB.out | apply below_alloc | apply pw_below_drewN | apply below_drew1) | exact HB.out)) hb); have n1_ := Aside0.mk (hbox); have n2_ := Aside0.mk ((by rw [hg]; exact (below_size (by repeat (first | (with_reducible first | exact HB.out | apply below_alloc | apply pw_below_drewN | apply below_drew1) | exact HB.out))) : w.heap.size ≤ gb101)); have n3_ := Aside0.mk ((by rw [hg]; exact (below_size (by repeat (first | (with_reducible first | exact HB.out | apply below_alloc | apply pw_below_drewN | apply below_drew1) | exact HB.out))) : w.heap.size ≤ gb101)); clear HB; have HB := n0_; have BK101 := n1_; have GW101 := n2_; have GE101 := n3_; clear n0_ n1_ n2_ n3_; clear hb hbox hg))
  go_loopg [3, 4] k (fun kq v3 v4 w' => ∃ (x3_1 : Int) (x4_1 : Int), v3 = .int .i64 x3_1 ∧ v4 = .int .i64 x4_1 ∧ Aside0 (trestlelaw19_large.l0 kq x3_1 x4_1 a0_0 l0_1 = some r) ∧ Aside0 (kq ≤ k) ∧ Aside0 (w'.heap[gb101]? = some (.cells #[.int .i64 a0_0, (.slice A0_1 l0_1.length c0_1)] 24 (0, 0))) ∧ Aside0 (Below w.heap.size w w'))
  case atStart => exact ⟨(0), (0), (by first | rfl | (simp; done) | (simp [*]; done)), (by first | rfl | (simp; done) | (simp [*]; done)), H', ⟨Nat.le_refl _⟩, ⟨by (with_reducible repeat (first | refine blk_drewN ?_ _ | refine blk_drew ?_ | refine blk_alloc ?_ _)); exact BK101.out⟩, ⟨by repeat (first | (with_reducible first | exact HB.out | apply below_alloc | apply pw_below_drewN | apply below_drew1 | refine below_set ?_ GE101.out) | exact HB.out)⟩⟩
  case round =>
    clear H'
    try clear p2
    obtain ⟨x3_1, x4_1, rfl, rfl, HA, HK1, BK101, HB⟩ := hrel
    cases gk with
    | zero => exact absurd HA.out (by simp [trestlelaw19_large.l0])
    | succ k1 =>
      have H := HA.out
      clear HA
      simp only [trestlelaw19_large.l0] at H
      by_cases c3 : x4_1 < (l0_1.length : Int)
      · rw [if_pos c3] at H
        have c3b0 : decide (x4_1 < (l0_1.length : Int)) = true := decide_eq_true c3
        clear c3
        by_cases c4 : 0 ≤ x4_1
        · rw [if_pos c4] at H
          have c4b0 : decide (0 ≤ x4_1) = true := decide_eq_true c4
          clear c4
          have H' := Aside0.mk H
          clear H
          have hcz5_0 : wr.cell? ⟨gb101, 0, none⟩ = some (.int .i64 a0_0) := (blk_cell BK101.out 0).trans rfl
          have hcz5_1 : wr.cell? ⟨gb101, 1, none⟩ = some (.slice A0_1 l0_1.length c0_1) := (blk_cell BK101.out 1).trans rfl
          have hfz5_0 := blk_frozen BK101.out 0
          have hfz5_1 := blk_frozen BK101.out 1
          have p102 : 0 ≤ (x4_1 : Int) := of_decide_eq_true (by first | (with_reducible assumption) | assumption)
          have q102 : x4_1 < (l0_1.length : Int) := of_decide_eq_true (by first | (with_reducible assumption) | assumption)
          obtain ⟨ad102, A102_0, c102_0, e102, hx102_0, hl102_0, hi102_0⟩ := at_L1 HR0_1.out x4_1 p102 q102
          cases e102
          replace hx102_0 := (HB.out.cell (World.block_lt_of_cell? w _ hx102_0)).trans hx102_0
          have HR102_0 := Aside0.mk hi102_0
          have HC102_0 := Aside0.mk hl102_0
          clear hi102_0 hl102_0
          replace p102 := eq_true p102
          replace q102 := eq_true q102
          go_wp2
          go_roundg k1
          case measure => have := HK1.out; omega
          case rel => exact ⟨(wrap64 (x3_1 + ((rd_L1 l0_1 x4_1).length : Int))), (wrap64 (x4_1 + 1)), (by first | rfl | (simp; done) | (simp [*]; done)), (by first | rfl | (simp; done) | (simp [*]; done)), H', ⟨by have := HK1.out; omega⟩, ⟨by (with_reducible repeat (first | refine blk_drewN ?_ _ | refine blk_drew ?_ | refine blk_alloc ?_ _)); exact BK101.out⟩, ⟨by repeat (first | (with_reducible first | exact HB.out | apply below_alloc | apply pw_below_drewN | apply below_drew1 | refine below_set ?_ GE101.out) | exact HB.out)⟩⟩
        · rw [if_neg c4] at H
          exact absurd H (by simp)
      · rw [if_neg c3] at H
        have c3b0 : decide (x4_1 < (l0_1.length : Int)) = false := decide_eq_false c3
        clear c3
        by_cases c6 : (l0_1.length : Int) > 120
        · rw [if_pos c6] at H
          have c6b0 : decide (120 < (l0_1.length : Int)) = true := decide_eq_true c6
          have c6b1 : decide (120 < l0_1.length) = true := decide_eq_true (by omega)
          clear c6
          obtain rfl := Option.some.inj H
          have hcz7_0 : wr.cell? ⟨gb101, 0, none⟩ = some (.int .i64 a0_0) := (blk_cell BK101.out 0).trans rfl
          have hcz7_1 : wr.cell? ⟨gb101, 1, none⟩ = some (.slice A0_1 l0_1.length c0_1) := (blk_cell BK101.out 1).trans rfl
          have hfz7_0 := blk_frozen BK101.out 0
          have hfz7_1 := blk_frozen BK101.out 1
          go_wp2
          go_ret
          exact ⟨by first | rfl | (simp [errW_none, errW_some] <;> rfl) | (simp [*, errW_none, errW_some] <;> rfl), by repeat (first | (with_reducible first | exact HB.out | apply below_alloc | apply pw_below_drewN | apply below_drew1 | refine below_set ?_ GE101.out) | exact HB.out)⟩
        · rw [if_neg c6] at H
          have c6b0 : decide (120 < (l0_1.length : Int)) = false := decide_eq_false c6
          have c6b1 : decide (120 < l0_1.length) = false := decide_eq_false (by omega)
          clear c6
          obtain rfl := Option.some.inj H
          have hcz8_0 : wr.cell? ⟨gb101, 0, none⟩ = some (.int .i64 a0_0) := (blk_cell BK101.out 0).trans rfl
          have hcz8_1 : wr.cell? ⟨gb101, 1, none⟩ = some (.slice A0_1 l0_1.length c0_1) := (blk_cell BK101.out 1).trans rfl
          have hfz8_0 := blk_frozen BK101.out 0
          have hfz8_1 := blk_frozen BK101.out 1
          go_wp2
          go_ret
          exact ⟨by first | rfl | (simp [errW_none, errW_some] <;> rfl) | (simp [*, errW_none, errW_some] <;> rfl), by repeat (first | (with_reducible first | exact HB.out | apply below_alloc | apply pw_below_drewN | apply below_drew1 | refine below_set ?_ GE101.out) | exact HB.out)⟩

end Go.Proofs.Ythhmjfjkbmmcaaa.GCS
/- CleanOuts returns true for every formula and number, and leaves them as they were; stated for inputs of bulk at most 1048576. -/
namespace Go.Proofs.Ythhmjfjkbmmcaaa
open Go.RowKit Go.Proofs.YthhmjfjkbmmcaaaW.PrintWords Go.Proofs.YthhmjfjkbmmcaaaW.PrintLast Go.Proofs.YthhmjfjkbmmcaaaW.PrintMore
set_option linter.unusedVariables false
set_option linter.unusedSimpArgs false

section
open GCS
theorem large_loop (v : Int) (ls : List (List Int)) (hl : ls.length ≤ 9223372036854775806) : ∀ k i (s : Int), i ≤ ls.length → ls.length < k + i → ∃ b, trestlelaw19_large.l0 k s (i : Int) v ls = some b ∧ (b = false → ls.length ≤ 120) := by
  intro k
  induction k with
  | zero => intro i s h1 h2; omega
  | succ k ih =>
    intro i s h1 h2
    unfold trestlelaw19_large.l0
    by_cases hlt : i < ls.length
    · have hw : wrap64 ((i : Int) + 1) = ((i + 1 : Nat) : Int) := by unfold wrap64; omega
      rw [if_pos (by omega), if_pos (by omega), hw]
      exact ih (i + 1) _ (by omega) (by omega)
    · rw [if_neg (by omega)]
      by_cases h : (ls.length : Int) > 120
      · rw [if_pos h]
        exact ⟨true, rfl, fun h => by cases h⟩
      · rw [if_neg h]
        exact ⟨_, rfl, fun _ => by omega⟩
theorem large_calls (v : Int) (A : Option Addr) (n c : Nat) (ls : List (List Int)) (w : World) (hn : n = ls.length) (hf : Kd.C kClause w A n ls) (hc : n ≤ c) (hl : ls.length ≤ 9223372036854775806) :
    ∃ b, (b = false → ls.length ≤ 120) ∧ ∀ W, Below w.heap.size w W → Calls Try.prog 5 #[.agg #[.int .i64 v, .slice A n c]] W fun e w' => e = .returned (.bool b) ∧ Below W.heap.size W w' := by
  subst hn
  obtain ⟨b, hb, h⟩ := large_loop v ls hl (ls.length + 1) 0 0 (Nat.zero_le _) (by omega)
  exact ⟨b, h, fun W hW => trestlelaw19_large.calls (ls.length + 1) v A c ls b W (Kd.C_below hf hW) hc (by unfold trestlelaw19_large.f; exact hb)⟩

end
theorem tidyStep_good {out : List (List Int)} {c : List Int} (g : ∀ c ∈ out, Good c) (gc : Good c) : ∀ c' ∈ tidyStep out c, Good c' := by
  intro c' h
  unfold tidyStep at h
  split at h
  · split at h
    · exact g c' h
    · rcases List.mem_append.1 h with h | h
      · exact g c' h
      · rw [List.mem_singleton.1 h]; exact nrm_good gc
  · exact g c' h
theorem tidyv_good {ls : List (List Int)} (g : ∀ c ∈ ls, Good c) : ∀ c ∈ tidyv ls, Good c := by
  have h : ∀ (ls : List (List Int)) (out : List (List Int)), (∀ c ∈ ls, Good c) → (∀ c ∈ out, Good c) → ∀ c ∈ ls.foldl tidyStep out, Good c := by
    intro ls
    induction ls with
    | nil => intro out _ h; exact h
    | cons c ls ih =>
      intro out g1 g2
      exact ih _ (fun c' hc => g1 c' (by simp [hc])) (tidyStep_good g2 (g1 c (by simp)))
  exact h ls [] g (by simp)


theorem outAns_bad {vv : Int} {ts ts' : List (List Int)} {e0 v : Int} (h : e0 ≠ 0) : outAns vv ts e0 v = outAns vv ts' e0 v := by
  unfold outAns
  rw [if_pos h, if_pos h]
theorem gonev_len (ts : List (List Int)) (v : Int) : (gonev ts v).length ≤ ts.length := List.length_filter_le _ _
theorem outR_good {ts nx : List (List Int)} {v : Int} (hg : ∀ l ∈ ts, Good l) (h : outR ts v = some nx) : ∀ l ∈ nx, Good l :=
  (resB_good v (agnv ts v) (filt_good hg) (withv ts v) (restv ts v) nx (filt_good hg) (filt_good hg) h).1
theorem good_len {ls : List (List Int)} (h : ∀ l ∈ ls, Good l) : ∀ l ∈ ls, l.length ≤ 1099511627776 := fun l hl => by have := (h l hl).1; omega
theorem outAns_bounds {vv v a b g : Int} {ts xs ys : List (List Int)} {e0 : Int} (hg : e0 = 0 → (∀ l ∈ ts, Good l) ∧ ts.length ≤ 100000) (h : outAns vv ts e0 v = (a, xs, b, ys, g)) :
    xs.length ≤ 4398046511104 ∧ (∀ l ∈ xs, l.length ≤ 1099511627776) ∧ ys.length ≤ 4398046511104 ∧ (∀ l ∈ ys, l.length ≤ 1099511627776) := by
  have hz : ∀ {a' b' g' : Int}, ((a', ([] : List (List Int)), b', ([] : List (List Int)), g') : Int × List (List Int) × Int × List (List Int) × Int) = (a, xs, b, ys, g) → xs.length ≤ 4398046511104 ∧ (∀ l ∈ xs, l.length ≤ 1099511627776) ∧ ys.length ≤ 4398046511104 ∧ (∀ l ∈ ys, l.length ≤ 1099511627776) := by
    intro a' b' g' e
    cases e
    simp
  unfold outAns at h
  split at h
  · exact hz h
  · rename_i h0
    have h0' : e0 = 0 := Decidable.not_not.1 h0
    obtain ⟨g1, g2⟩ := hg h0'
    split at h
    · exact hz h
    · split at h
      · exact hz h
      · rename_i nx hn
        split at h
        · rename_i hl
          cases h
          have := gonev_len ts v
          exact ⟨by omega, good_len (tidyv_good (outR_good g1 hn)), by omega, good_len (filt_good g1)⟩
        · exact hz h
theorem checked_ok (vv : Int) (ls : List (List Int)) (h : chk vv ls = 0) : ∃ k, GCO.trestleref19_checked.f k vv ls = some (tidyv ls, chk vv ls) := by
  obtain ⟨h1, h2, h3, h4⟩ := chk_good h
  obtain ⟨K, hK⟩ := refTidy_f ls h4 (by omega)
  refine ⟨max K 600001, ?_⟩
  obtain ⟨j, hj⟩ := check_f vv ls (k := max K 600001) (by omega)
  unfold GCO.trestleref19_checked.f
  have hK' : GCO.trestleref19_tidy.f (max K 600001) ls = some (tidyv ls) := hK _ (by omega)
  rw [hj, Option.bind_some, h, if_pos rfl, hK']
  rfl
theorem checked_bad (vv : Int) (ls : List (List Int)) (h : chk vv ls ≠ 0) : ∃ k, GCO.trestleref19_checked.f k vv ls = some ([], chk vv ls) := by
  refine ⟨600001, ?_⟩
  obtain ⟨j, hj⟩ := check_f vv ls (k := 600001) (by omega)
  unfold GCO.trestleref19_checked.f
  rw [hj, Option.bind_some, if_neg h]
theorem ref_calls (vv : Int) (A : Option Addr) (n c : Nat) (ls : List (List Int)) (v : Int) (w : World) (hn : n = ls.length) (hr : Kd.C kClause w A n ls) (hc : n ≤ c) (hl : ls.length ≤ 120) :
    Calls Try.prog 9 #[.agg #[.int .i64 vv, .slice A n c], .int .i64 v] w (TopPost vv (tidyv ls) (chk vv ls) v w) := by
  have htd : ∀ x, (∀ c ∈ x, Good c) → x.length ≤ 4398046511104 → ∃ k, GCO.trestleref19_tidy.f k x = some (tidyv x) := fun x h1 h2 => by
    obtain ⟨K, hK⟩ := refTidy_f x h1 h2
    exact ⟨K, hK K (Nat.le_refl _)⟩
  by_cases h0 : chk vv ls = 0
  · obtain ⟨h1, h2, h3, h4⟩ := chk_good h0
    have hT : (∀ l ∈ tidyv ls, Good l) := tidyv_good h4
    have hTl := tidyv_length ls
    exact refTop_calls vv A n c ls v (tidyv ls) (chk vv ls) w hn hr hc (checked_ok vv ls h0) (fun _ => ⟨hT, by omega, h2⟩) (fun v1 v2 a ha b hb => ⟨40001, resolve_f a b v (hT a ha) (hT b hb) ⟨by omega, by omega, by omega⟩ (by omega)⟩) htd
      (fun _ => copied_f vv ls _ (by have := gonev_len (tidyv ls) v; omega) (good_len (filt_good hT))) (fun nx hx hnl => copied_f vv ls _ (by omega) (good_len (tidyv_good (outR_good hT hx))))
  · refine (refTop_calls vv A n c ls v [] (chk vv ls) w hn hr hc (checked_bad vv ls h0) (fun h => absurd h h0) (fun _ _ a ha => by cases ha) htd (fun h => absurd h h0) (fun nx hx hnl => copied_f vv ls _ (by omega) (good_len (tidyv_good (outR_good (fun l hl => by cases hl) hx))))).mono ?_
    rintro e w' ⟨hB, a, X, p, d, b, Y, q, c', g, xs, ys, r1, r2, r3, r4, r5, r6, r7, r8⟩
    exact ⟨hB, a, X, p, d, b, Y, q, c', g, xs, ys, r1, r2, r3, r4, r5, r6, r7, (outAns_bad h0).trans r8⟩

theorem out_hof (vv : Int) (ls : List (List Int)) (v : Int) (hl : ls.length ≤ 120) : chk vv ls = 0 → 1 ≤ v → v ≤ vv → (∃ k r1 r2 r3, GCS.clean_out.f k (tidyv ls) v = some (r1, r2, r3, false) ∧ outAns vv (tidyv ls) 0 v = (0, [], 0, [], 2)) ∨ ∃ k r1 r2 r3, GCS.clean_out.f k (tidyv ls) v = some (r1, r2, r3, true) ∧ outAns vv (tidyv ls) 0 v = (vv, r1, r2, r3, 0) ∧ r1.length ≤ 4398046511104 ∧ (∀ l ∈ r1, l.length ≤ 1099511627776) ∧ r3.length ≤ 4398046511104 ∧ (∀ l ∈ r3, l.length ≤ 1099511627776) := fun h0 v1 v2 => by
  obtain ⟨h1, h2, h3, h4⟩ := chk_good h0
  have hT : (∀ l ∈ tidyv ls, Good l) := tidyv_good h4
  have hTl := tidyv_length ls
  obtain ⟨k, hk⟩ := cleanout_f v ⟨by omega, by omega, by omega⟩ (tidyv ls) hT (by omega)
  have hA : outAns vv (tidyv ls) 0 v = match outR (tidyv ls) v with
    | none => (0, [], 0, [], 2)
    | some nx => if (tidyv nx).length ≤ 524288 then (vv, tidyv nx, v, gonev (tidyv ls) v, 0) else (0, [], 0, [], 2) := by
    unfold outAns
    rw [if_neg (fun h => h rfl), if_neg (by omega)]
    cases outR (tidyv ls) v <;> rfl
  rcases ho : outR (tidyv ls) v with _ | nx
  · rw [ho] at hk hA
    exact .inl ⟨k, [], 0, [], hk, hA⟩
  · rw [ho] at hk hA
    by_cases hb : (tidyv nx).length ≤ 524288
    · have hd : decide (((tidyv nx).length : Int) ≤ 524288) = true := decide_eq_true (by omega)
      simp only [hd] at hk
      simp only [if_pos hb] at hA
      have := gonev_len (tidyv ls) v
      exact .inr ⟨k, tidyv nx, v, gonev (tidyv ls) v, hk, hA, by omega, good_len (tidyv_good (outR_good hT ho)), by omega, good_len (filt_good hT)⟩
    · have hd : decide (((tidyv nx).length : Int) ≤ 524288) = false := decide_eq_false (by omega)
      simp only [hd] at hk
      simp only [if_neg hb] at hA
      exact .inl ⟨k, tidyv nx, v, gonev (tidyv ls) v, hk, hA⟩
theorem outs_calls (vv x : Int) (A : Option Addr) (c : Nat) (ls : List (List Int)) (w : World) (hf : Kd.C kClause w A ls.length ls) (hc : ls.length ≤ c) (hcm : ls.length ≤ 1099511627776) (hs : ∀ l ∈ ls, l.length ≤ 1099511627776) :
    Calls Try.prog 3 #[.agg #[.int .i64 vv, .slice A ls.length c], .int .i64 x] w fun e w' => e = .returned (.bool true) ∧ Below w.heap.size w w' := by
  obtain ⟨b, hlen, hL⟩ := large_calls vv A ls.length c ls w rfl hf hc (by omega)
  cases b with
  | true => exact outs_large vv x A ls.length c w hL
  | false =>
    have hl := hlen rfl
    rcases hans : outAns vv (tidyv ls) (chk vv ls) x with ⟨a, xs, b, ys, g⟩
    have hTl := tidyv_length ls
    obtain ⟨b1, b2, b3, b4⟩ := outAns_bounds (fun h0 => ⟨tidyv_good (chk_good h0).2.2.2, by omega⟩) hans
    refine outs_walk vv x a b g A ls.length c xs.length ys.length ls xs ys w rfl hf hc hcm hs hL (fun W A' c' hA hc' => ?_) (fun W hA => ?_) rfl rfl b1 b2 b3 b4
    · refine (outTop_calls vv A' ls.length c' ls x W rfl hA hc' (out_hof vv ls x hl)).mono ?_
      rintro e w' ⟨hB, a', X, p, d, b', Y, q, c2, g', xs', ys', rfl, r2, r3, r4, r5, r6, r7, r8, r9, r10, r11⟩
      rw [hans] at r11
      cases r11
      subst r4
      subst r5
      exact ⟨X, d, Y, c2, rfl, r2, r3, r6, r7, r8, r9, r10, hB⟩
    · refine (ref_calls vv A ls.length c ls x W rfl hA hc hl).mono ?_
      rintro e w' ⟨hB, a', X, p, d, b', Y, q, c2, g', xs', ys', rfl, r2, r3, r4, r5, r6, r7, r11⟩
      rw [hans] at r11
      cases r11
      subst r4
      subst r5
      exact ⟨X, d, Y, c2, rfl, r2, r3, r6, r7, hB⟩

end Go.Proofs.Ythhmjfjkbmmcaaa
/- A formula that comes in is read as its number and its rows of numbers. -/
namespace Go.Proofs.Ythhmjfjkbmmcaaa
open Go.RowKit Go.Proofs.YthhmjfjkbmmcaaaW.PrintWords Go.Proofs.YthhmjfjkbmmcaaaW.PrintLast Go.Proofs.YthhmjfjkbmmcaaaW.PrintMore
open Go.ChangeShapes Go.WideShapes Go.ChangeAt
set_option linter.unusedVariables false
set_option linter.unusedSimpArgs false

theorem C_ints_of {w : World} {A : Option Addr} {n : Nat} {zs : List Int} (hl : n ≤ zs.length) (hm : n ≤ 9223372036854775807) (hn : A = none → n = 0) (hc : ∀ a, A = some a → ∀ i, i < n → w.cell? (a.add i) = some (.int .i64 (zs.getD i 0))) : (Kd.int .i64).C w A n (zs.take n) := by
  refine ⟨by rw [List.length_take]; omega, hm, fun h0 => ?_⟩
  rcases A with _ | a
  · have := hn rfl; omega
  · refine ⟨a, rfl, fun j p hj => ⟨[.int .i64 p], rfl, rfl, fun i u hu => ?_⟩⟩
    have hjn : j < n := by
      have := (List.getElem?_eq_some_iff.1 hj).1
      rw [List.length_take] at this
      omega
    rw [List.getElem?_take_of_lt hjn] at hj
    match i, hu with
    | 0, hu =>
      cases hu
      rw [show (j * (Kd.int .i64).sz + 0) = j by show j * 1 + 0 = j; omega, hc a rfl j hjn, List.getD_eq_getElem?_getD, hj]
      rfl
theorem C_rows_of {w : World} {a : Addr} {len cap : Nat} {A : Nat → Option Addr} {L C : Nat → Nat} {Z : Nat → List Int} (hl : len ≤ cap) (hm : cap ≤ maxLen)
    (h : ∀ r, r < cap → w.cell? (a.add r) = some (.slice (A r) (L r) (C r)) ∧ L r ≤ C r ∧ C r ≤ maxLen ∧ (Z r).length = C r ∧ (∀ n ∈ Z r, (Lit.int .i64 n).wf = true) ∧ (A r = none → C r = 0) ∧
        ∀ a', A r = some a' → 0 ≤ a'.block ∧ ∀ c, c < C r → w.cell? (a'.add c) = some (.int .i64 ((Z r).getD c 0))) :
    Kd.C (Kd.slice 3 (Kd.int .i64)) w (some a) len ((List.range len).map fun r => (Z r).take (L r)) := by
  unfold maxLen at hm
  refine ⟨by simp, by omega, fun h0 => ⟨a, rfl, fun j p hj => ?_⟩⟩
  have hjn : j < len := by
    have := (List.getElem?_eq_some_iff.1 hj).1
    simpa using this
  obtain rfl : p = (Z j).take (L j) := by
    rw [List.getElem?_map, List.getElem?_range hjn] at hj
    exact (Option.some.inj hj).symm
  obtain ⟨h1, h2, h3, h4, _, h6, h7⟩ := h j (by omega)
  unfold maxLen at h3
  have hlen : ((Z j).take (L j)).length = L j := by rw [List.length_take]; omega
  refine ⟨[.slice (A j) (L j) (C j)], rfl, ⟨A j, C j, by rw [hlen], by omega, ?_⟩, fun i u hu => ?_⟩
  · rw [hlen]
    exact C_ints_of (by omega) (by omega) (fun e => by have := h6 e; omega) (fun a' e i hi => (h7 a' e).2 i (by omega))
  · match i, hu with
    | 0, hu =>
      cases hu
      rw [show (j * (Kd.slice 3 (Kd.int .i64)).sz + 0) = j by show j * 1 + 0 = j; omega]
      exact h1

theorem laidOut : laidOutB Try.prog = true := by kernel_rfl
/-! ## What the bound gives -/
theorem bulk_one {H : Type} (d : DataW H) : 1 ≤ Rows.uptoBulk d := by
  cases d with
  | lit l => cases l <;> simp [Rows.uptoBulk]
  | nil => simp [Rows.uptoBulk]
  | ptr d => simp [Rows.uptoBulk]
  | slice elems spare => simp [Rows.uptoBulk]
  | agg parts => simp [Rows.uptoBulk]
  | iface t d => simp [Rows.uptoBulk]
  | map entries => simp [Rows.uptoBulk]
  | held h => simp [Rows.uptoBulk]
theorem bulk_len {H : Type} : ∀ l : List (DataW H), l.length ≤ Rows.uptoBulkAll l
  | [] => by simp [Rows.uptoBulkAll]
  | d :: l => by have := bulk_one d; have := bulk_len l; simp only [Rows.uptoBulkAll, List.length_cons]; omega
theorem bulk_row {H : Type} (A : Option Addr) (L : Nat) (zs : List Int) (h : A = none → L = 0) : (zs.take L).length + 1 ≤ Rows.uptoBulk (Deep.intRow (H := H) .i64 A L zs) := by
  unfold Deep.intRow
  rcases A with _ | a
  · rw [h rfl]; simp [Rows.uptoBulk]
  · have h1 := bulk_len (lits (H := H) .i64 (zs.take L))
    have h2 : (lits (H := H) .i64 (zs.take L)).length = (zs.take L).length := by simp [lits]
    simp only [Rows.uptoBulk]
    omega
theorem bulk_rows {H : Type} (A : Nat → Option Addr) (L : Nat → Nat) (Z : Nat → List Int) : ∀ rs : List Nat, (∀ r ∈ rs, A r = none → L r = 0) → ((rs.map fun r => (Z r).take (L r)).map List.length).sum + rs.length ≤ Rows.uptoBulkAll (rs.map fun r => Deep.intRow (H := H) .i64 (A r) (L r) (Z r))
  | [], _ => by simp [Rows.uptoBulkAll]
  | r :: rs, h => by
    have h1 := bulk_row (H := H) (A r) (L r) (Z r) (h r (by simp))
    have h2 := bulk_rows (H := H) A L Z rs (fun r hr => h r (List.mem_cons_of_mem _ hr))
    simp only [List.map_cons, List.sum_cons, List.length_cons, Rows.uptoBulkAll] at *
    omega

set_option maxRecDepth 100000 in
/-- A formula, opened. -/
theorem open_cnf {H : Type} {enc : TypeId × Value → H} {W : World} {base : Nat} {v : Value} {d : DataW H} {p : List MemPlace} (hv : Value.okWide Try.prog W .any base 24 v) (h : DataW.Trod enc Try.prog W 0 (fun _ => true) true 24 v d p) :
    ∃ (n : Int) (A : Option Addr) (c : Nat) (ls : List (List Int)), v = .agg #[.int .i64 n, .slice A ls.length c] ∧ (Lit.int .i64 n).wf = true ∧ ls.length ≤ c ∧ Kd.C (Kd.slice 3 (Kd.int .i64)) W A ls.length ls ∧ (ls.map List.length).sum + ls.length ≤ Rows.uptoBulk d := by
  obtain ⟨v0, v1, y0, y1, m, rfl, rfl, _, h0, h1⟩ := Joins.open_agg2 Try.underlying24 (by kernel_rfl) (by kernel_rfl) hv h
  obtain ⟨n, hn0, _, hw⟩ := DataW.trod_int Try.underlying3 h0
  have hn : v0 = .int .i64 n := by injection hn0
  clear hn0
  subst hn
  rcases Deep.open_int_rows Try.underlying22 Try.underlying43 Try.underlying3 (by kernel_rfl) (by kernel_rfl) h1 with ⟨hcs, _⟩ | ⟨a, len, cap, A, L, C, Z, hcs, _, hl, hm, hy, hr⟩
  · injection hcs with hcs
    subst hcs
    exact ⟨n, none, 0, [], rfl, hw, Nat.le_refl _, Kd.C_nil _ _, by simp⟩
  · injection hcs with hcs
    subst hcs
    have hlen : ((List.range len).map fun r => (Z r).take (L r)).length = len := by rw [List.length_map, List.length_range]
    have hb := bulk_rows (H := H) A L Z (List.range len) (fun r hr' hn => by
      have h2 := hr r (Nat.lt_of_lt_of_le (List.mem_range.1 hr') hl)
      have := h2.2.2.2.2.2.1 hn
      have := h2.2.1
      omega)
    rw [List.length_range] at hb
    refine ⟨n, some a, cap, (List.range len).map fun r => (Z r).take (L r), ?_, hw, ?_, ?_, ?_⟩
    · rw [hlen]
    · rw [hlen]; exact hl
    · rw [hlen]; exact C_rows_of hl hm hr
    · rw [hlen, hy]
      simp only [Rows.uptoBulk, Rows.uptoBulkAll]
      omega

end Go.Proofs.Ythhmjfjkbmmcaaa
/- The claim on CleanOuts. -/
namespace Go.Proofs.Ythhmjfjkbmmcaaa
open Go.RowKit Go.Proofs.YthhmjfjkbmmcaaaW.PrintWords Go.Proofs.YthhmjfjkbmmcaaaW.PrintLast Go.Proofs.YthhmjfjkbmmcaaaW.PrintMore
open Go.ChangeShapes Go.WideShapes Go.ChangeAt
set_option linter.unusedVariables false
set_option linter.unusedSimpArgs false

theorem sum_mem : ∀ {l : List Nat} {n : Nat}, n ∈ l → n ≤ l.sum
  | x :: l, n, h => by
    rw [List.sum_cons]
    rcases List.mem_cons.1 h with rfl | h
    · omega
    · have := sum_mem h; omega
theorem own : ownKnob Try.prog.godebug = none := by kernel_rfl
set_option maxRecDepth 100000 in
theorem outs_lifted (os : Os) (started : os.Started) (H : Type) (enc : TypeId × Value → H) (F : Stop.Interp) :
    ReturnsInHanded {} Try.checked os 3 .any ((Rows.OpenSpec.upto Rows.cleanOutsSpec).pre6 enc Try.prog Try.f3 Rows.cleanOutsUptoRow.domain false) (((Rows.OpenSpec.upto Rows.cleanOutsSpec).at F).post enc Try.prog Try.f3 false true false false) := by
  refine returnsInHanded_of_cond (C := Try.checked) (s := Rows.OpenSpec.upto Rows.cleanOutsSpec) (k := Rows.uptoSmall) rfl own started (by kernel_rfl) Try.func3
    (OpenSpec.witness (enc := enc) (C := Try.checked) (s := Rows.OpenSpec.upto Rows.cleanOutsSpec) (k := Rows.uptoSmall) rfl false ⟨#[], #[.agg #[.int .i64 0, .slice none 0 0], .int .i64 0], []⟩ 8 (by kernel_rfl) (by kernel_rfl) (by kernel_rfl)
      (x := ([.agg [.lit (.int .i64 0), .nil], .lit (.int .i64 0)], [], [])) (by kernel_rfl) rfl (by kernel_rfl)) ?_
  intro W base args ds gs before hval hW _ hk _
  have hW' := hW
  obtain ⟨p, q, hA0, hV, rfl, hfz, hnd⟩ := hW
  have hA : DataW.TrodAll enc Try.prog W 0 (fun _ => true) true Try.f3.params.toList args.toList ds p := hA0
  have hval' : ∀ (j : Nat) t v, Try.f3.params[j]? = some t → args[j]? = some v → Value.okWide Try.prog W .any base t v := hval
  rw [Try.params3] at hA hval'
  obtain ⟨v0, vs0, d0, ds0, p0, q0, hargs, rfl, rfl, h0, r0⟩ := trodAll_cons hA
  obtain ⟨v1, vs1, d1, ds1, p1, q1, hargs1, rfl, rfl, h1, r1⟩ := trodAll_cons r0
  obtain ⟨rfl, rfl, rfl⟩ := trodAll_nil r1
  subst hargs1
  obtain rfl : args = #[v0, v1] := by cases args; simp_all
  obtain ⟨rfl, rfl⟩ := trodVars_none hV
  have k0 := h0
  have lt0 : ∀ x ∈ p0, x.block < W.heap.size := by obtain ⟨m, hm⟩ := k0; exact DataW.trod_lt m _ _ _ hm
  have k1 := h1
  have lt1 : ∀ x ∈ p1, x.block < W.heap.size := by obtain ⟨m, hm⟩ := k1; exact DataW.trod_lt m _ _ _ hm
  obtain ⟨x, hx⟩ := okWide_int Try.underlying3 (hval' 1 _ v1 rfl rfl)
  subst hx
  obtain ⟨n, A, c, ls, rfl, hw, hlc, hC, hbulk⟩ := open_cnf (hval' 0 _ v0 rfl rfl) h0
  have hk2 : Rows.uptoBulkAll ([d0, d1] ++ []) ≤ 1048576 := of_decide_eq_true hk
  simp only [List.append_nil, Rows.uptoBulkAll] at hk2
  clear hA0 hA r0 r1
  simp only [List.append_nil] at hW'
  refine (outs_calls n x A c ls W hC hlc (by omega) (fun l hl => by have := sum_mem (List.mem_map_of_mem (f := List.length) hl); omega)).mono fun e W' ⟨he, bel⟩ => ?_
  subst he
  exact ⟨_, rfl, _, _, _, [], _, [], hW', trodAll_mk1 (shut_bool Try.underlying4 _), trodAll_cons_mk (Below.trod laidOut (by kernel_rfl) (of_decide_eq_true (by kernel_rfl)) k0 bel lt0) (trodAll_cons_mk (Below.trod laidOut (by kernel_rfl) (of_decide_eq_true (by kernel_rfl)) k1 bel lt1) trodAll_mk0), rfl, bel.frame _, fun h => by cases h⟩

theorem outs_over : Rows.cleanOutsUptoRow.holds Try.pinned (Rows.OpenSpec.upto Rows.cleanOutsSpec) :=
  OpenClaim.holds_of_cond 3 Try.f3 rfl rfl rfl rfl rfl rfl rfl ⟨rfl, rfl, rfl, rfl, rfl⟩ rfl rfl rfl rfl rfl (by kernel_rfl) Try.func3 (by kernel_rfl)
    (of_decide_eq_true (by kernel_rfl)) (by unfold Func.isWrapper; first | (rw [if_pos (by decide +kernel)]; kernel_rfl) | (rw [if_neg (by decide +kernel)]; exact ⟨rfl, rfl⟩))
    (fun os started H enc _ F => outs_lifted os started H enc F)

/-- CleanOuts is true of every formula and number. -/
theorem cleanOutsUpto_holds : Rows.CleanOutsUptoSaid := outs_over
#print axioms cleanOutsUpto_holds

end Go.Proofs.Ythhmjfjkbmmcaaa
