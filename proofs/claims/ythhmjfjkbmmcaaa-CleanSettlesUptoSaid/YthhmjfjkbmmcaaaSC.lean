/- slices.Clone of a clause, as the printed texts ask for it. -/
import Derived.Test.YthhmjfjkbmmcaaaSB
import Derived.Test.YthhmjfjkbmmcaaaSA
/- The plain law of CleanSettles: normal forms are their own normal forms; tidied clauses stay; units, clauses left away and clauses made shorter settle. -/
namespace Go.Proofs.Ythhmjfjkbmmcaaa
open Go.RowKit Go.Proofs.YthhmjfjkbmmcaaaW.PrintWords Go.Proofs.YthhmjfjkbmmcaaaW.PrintLast Go.Proofs.YthhmjfjkbmmcaaaW.PrintMore
open GCS
set_option linter.unusedVariables false
set_option linter.unusedSimpArgs false

/-! ## Normal forms -/
theorem ordv_tri (x y : Int) : ordv x y < 0 ∨ x = y ∨ ordv y x < 0 := by
  rw [ordv_neg, ordv_neg]
  have := vr_or x; have := vr_or y
  omega
theorem ordv_tr {x y z : Int} (h1 : ordv x y < 0) (h2 : ordv y z < 0) : ordv x z < 0 := by
  rw [ordv_neg] at *
  omega
theorem ordv_ir (x : Int) : ¬ ordv x x < 0 := by
  rw [ordv_neg]
  omega
theorem ltB_le (x y : Int) : (!ltB y x) = true ↔ (ordv x y < 0 ∨ x = y) := by
  unfold ltB
  rw [Bool.not_eq_true', decide_eq_false_iff_not]
  constructor
  · intro h
    rcases ordv_tri x y with h1 | h1 | h1
    · exact .inl h1
    · exact .inr h1
    · exact absurd h1 h
  · rintro (h | rfl) h2
    · exact ordv_ir x (ordv_tr h h2)
    · exact ordv_ir _ h2
/-- Literals that rise. -/
def Rise (xs : List Int) : Prop := xs.Pairwise fun x y => ordv x y < 0
theorem srt_sorted (xs : List Int) : (srt xs).Pairwise fun x y => (!ltB y x) = true := by
  refine List.pairwise_mergeSort (fun a b c h1 h2 => ?_) (fun a b => ?_) xs
  · rw [ltB_le] at *
    rcases h1 with h1 | rfl
    · rcases h2 with h2 | rfl
      · exact .inl (ordv_tr h1 h2)
      · exact .inl h1
    · exact h2
  · rw [Bool.or_eq_true, ltB_le, ltB_le]
    rcases ordv_tri a b with h | h | h
    · exact .inl (.inl h)
    · exact .inl (.inr h)
    · exact .inr (.inl h)
theorem srt_rise {xs : List Int} (h : Rise xs) : srt xs = xs := by
  unfold srt
  refine List.mergeSort_of_pairwise ?_
  exact h.imp fun h => (ltB_le _ _).2 (.inl h)
theorem cmpct_rise {xs : List Int} (h : xs.Pairwise fun x y => (!ltB y x) = true) : Rise (cmpct xs) := by
  unfold Rise cmpct Lib.compactUpTo
  rw [List.pairwise_map]
  have hr : ((List.range xs.toArray.size).filter (Lib.keeps xs.toArray)).Pairwise (· < ·) := List.Pairwise.filter _ List.pairwise_lt_range
  refine List.Pairwise.imp_of_mem ?_ hr
  intro i j hi hj hij
  rw [List.mem_filter, List.mem_range] at hi hj
  have hjl : j < xs.length := by simpa using hj.1
  have e1 : xs.toArray[i]! = xs[i] := by simp [getElem!_pos, Nat.lt_trans hij hjl]
  have e2 : xs.toArray[j]! = xs[j] := by simp [getElem!_pos, hjl]
  have e3 : xs.toArray[j - 1]! = xs[j - 1] := by simp [getElem!_pos, Nat.lt_of_le_of_lt (Nat.sub_le j 1) hjl]
  have hk : xs[j] ≠ xs[j - 1] := by
    have := hj.2
    simp only [Lib.keeps, decide_eq_true_eq] at this
    rw [e2, e3] at this
    rcases this with h0 | h0
    · omega
    · exact h0
  rw [e1, e2]
  have h1 : ordv xs[j - 1] xs[j] < 0 := by
    have := (List.pairwise_iff_getElem.1 h) (j - 1) j (by omega) hjl (by omega)
    rcases (ltB_le _ _).1 this with h1 | h1
    · exact h1
    · exact absurd h1.symm hk
  by_cases hi1 : i = j - 1
  · subst hi1; exact h1
  · have := (List.pairwise_iff_getElem.1 h) i (j - 1) (by omega) (by omega) (by omega)
    rcases (ltB_le _ _).1 this with h2 | h2
    · exact ordv_tr h2 h1
    · rw [h2]; exact h1
theorem cmpct_fix {xs : List Int} (h : Rise xs) : cmpct xs = xs := by
  unfold cmpct
  rw [Lib.compactUpTo_all, Lib.range_map_get]
  intro j hj
  have hjl : j < xs.length := by simpa using hj
  unfold Lib.keeps
  rw [decide_eq_true_eq]
  by_cases h0 : j = 0
  · exact .inl h0
  · right
    have e2 : xs.toArray[j]! = xs[j] := by simp [getElem!_pos, hjl]
    have e3 : xs.toArray[j - 1]! = xs[j - 1] := by simp [getElem!_pos, Nat.lt_of_le_of_lt (Nat.sub_le j 1) hjl]
    rw [e2, e3]
    intro e
    have := (List.pairwise_iff_getElem.1 h) (j - 1) j (by omega) hjl (by omega)
    rw [e] at this
    exact ordv_ir _ this
/-- A clause that is its own normal form. -/
def Nf (c : List Int) : Prop := nrm c = (c, true)
theorem nrm_nf {c : List Int} (h : (nrm c).2 = true) : Nf (nrm c).1 := by
  have hR := cmpct_rise (srt_sorted c)
  unfold nrm at h
  split at h
  · cases h
  · rename_i hc
    have e : (nrm c).1 = cmpct (srt c) := by unfold nrm; rw [if_neg hc]
    rw [e]
    unfold Nf nrm
    rw [srt_rise hR, cmpct_fix hR, if_neg hc]
theorem nf_nil : Nf [] := by
  unfold Nf nrm srt
  simp [List.mergeSort, cmpct, Lib.compactUpTo, clashFrom]

/-! ## Tidied clauses -/
/-- Clauses in normal form, each once. -/
def Tidied (l : List (List Int)) : Prop := (∀ c ∈ l, Nf c) ∧ l.Nodup
theorem tidied_nil : Tidied [] := ⟨by simp, by simp⟩
theorem tidied_step {out : List (List Int)} (h : Tidied out) (c : List Int) : Tidied (tidyStep out c) := by
  unfold tidyStep
  split
  · rename_i hn
    split
    · exact h
    · rename_i hm
      refine ⟨fun x hx => ?_, ?_⟩
      · rcases List.mem_append.1 hx with hx | hx
        · exact h.1 x hx
        · obtain rfl := List.mem_singleton.1 hx
          exact nrm_nf hn
      · rw [List.nodup_append]
        refine ⟨h.2, by simp, fun a ha b hb => ?_⟩
        obtain rfl := List.mem_singleton.1 hb
        exact fun e => hm (e ▸ ha)
  · exact h
theorem tidied_fold : ∀ (ls out : List (List Int)), Tidied out → Tidied (ls.foldl tidyStep out)
  | [], out, h => h
  | c :: ls, out, h => tidied_fold ls _ (tidied_step h c)
theorem tidyv_tidied (ls : List (List Int)) : Tidied (tidyv ls) := tidied_fold ls [] tidied_nil
theorem fold_fix : ∀ (ls out : List (List Int)), Tidied (out ++ ls) → ls.foldl tidyStep out = out ++ ls
  | [], out, _ => by simp
  | c :: ls, out, h => by
    have hc : nrm c = (c, true) := h.1 c (by simp)
    have hm : c ∉ out := by
      have := List.nodup_append.1 h.2
      intro hm
      exact this.2.2 c hm c (by simp) rfl
    have e : tidyStep out c = out ++ [c] := by unfold tidyStep; rw [hc]; simp [hm]
    rw [List.foldl_cons, e, fold_fix ls (out ++ [c]) (by rw [List.append_assoc]; exact h), List.append_assoc]
    rfl
theorem tidyv_fix {ls : List (List Int)} (h : Tidied ls) : tidyv ls = ls := by
  have := fold_fix ls [] (by rw [List.nil_append]; exact h)
  rw [List.nil_append] at this
  exact this
theorem tidied_sub {l l' : List (List Int)} (h : Tidied l) (hs : l'.Sublist l) : Tidied l' := ⟨fun c hc => h.1 c (hs.subset hc), h.2.sublist hs⟩
/-- Where the literals of tidied clauses come from. -/
theorem fold_from : ∀ (ls out : List (List Int)) (c : List Int), c ∈ ls.foldl tidyStep out → c ∈ out ∨ ∃ d ∈ ls, c = (nrm d).1
  | [], out, c, h => .inl h
  | d :: ls, out, c, h => by
    rcases fold_from ls _ c h with h | ⟨d', hd', e⟩
    · unfold tidyStep at h
      split at h
      · split at h
        · exact .inl h
        · rcases List.mem_append.1 h with h | h
          · exact .inl h
          · exact .inr ⟨d, by simp, List.mem_singleton.1 h⟩
      · exact .inl h
    · exact .inr ⟨d', by simp [hd'], e⟩
theorem tidyv_from {ls : List (List Int)} {c : List Int} (h : c ∈ tidyv ls) : ∃ d ∈ ls, c = (nrm d).1 := by
  rcases fold_from ls [] c h with h | h
  · simp at h
  · exact h
theorem fold_lits : ∀ (ls out : List (List Int)), litsOf (ls.foldl tidyStep out) ≤ litsOf out + litsOf ls
  | [], out => by simp [litsOf]
  | c :: ls, out => by
    refine Nat.le_trans (fold_lits ls _) ?_
    have hl := nrm_length c
    have : litsOf (tidyStep out c) ≤ litsOf out + c.length := by
      unfold tidyStep
      split
      · split
        · omega
        · simp [litsOf]; omega
      · omega
    have e : litsOf (c :: ls) = c.length + litsOf ls := by simp [litsOf]
    omega
theorem tidyv_lits (ls : List (List Int)) : litsOf (tidyv ls) ≤ litsOf ls := by
  have := fold_lits ls []
  simpa [tidyv, litsOf] using this

/-! ## What is checked -/
/-- Clauses that may be: no longer than a list may be, of the formula's variables. -/
def OkC (v : Int) (c : List Int) : Prop := c.length ≤ 16384 ∧ c.any (badLit v) = false
theorem chkFrom_ok (v : Int) : ∀ ls : List (List Int), chkFrom v ls = 0 ↔ ∀ c ∈ ls, OkC v c
  | [] => by simp [chkFrom]
  | c :: ls => by
    simp only [chkFrom, List.forall_mem_cons]
    rw [← chkFrom_ok v ls]
    unfold OkC
    split
    · constructor
      · omega
      · intro h; omega
    · split
      · rename_i hb
        constructor
        · omega
        · rintro ⟨⟨_, h⟩, _⟩; rw [h] at hb; cases hb
      · rename_i h1 hb
        constructor
        · intro h; exact ⟨⟨by omega, by simpa using hb⟩, h⟩
        · intro h; exact h.2
theorem chk_ok (v : Int) (ls : List (List Int)) : chk v ls = 0 ↔ 0 ≤ v ∧ v ≤ 262144 ∧ ls.length ≤ 524288 ∧ ∀ c ∈ ls, OkC v c := by
  rw [← chkFrom_ok]
  unfold chk
  split
  · constructor
    · omega
    · intro h; omega
  · split
    · constructor
      · omega
      · intro h; omega
    · constructor
      · intro h; exact ⟨by omega, by omega, by omega, h⟩
      · intro h; exact h.2.2.2
theorem okC_sub {v : Int} {c c' : List Int} (h : OkC v c) (hl : c'.length ≤ c.length) (hm : ∀ x ∈ c', x ∈ c) : OkC v c' := by
  refine ⟨by have := h.1; omega, ?_⟩
  rw [List.any_eq_false] at *
  intro x hx
  exact List.any_eq_false.1 h.2 x (hm x hx)
theorem okC_tidy {v : Int} {ls : List (List Int)} (h : ∀ c ∈ ls, OkC v c) : ∀ c ∈ tidyv ls, OkC v c := fun c hc => by
  obtain ⟨d, hd, rfl⟩ := tidyv_from hc
  exact okC_sub (h d hd) (nrm_length d) fun x hx => nrm_mem hx
theorem okC_nil (v : Int) : OkC v [] := ⟨by simp, by simp⟩

/-! ## Units -/
theorem litsOf_sub {l l' : List (List Int)} (h : l'.Sublist l) : litsOf l' ≤ litsOf l := by
  unfold litsOf
  induction h with
  | slnil => simp
  | cons a h ih => simp; omega
  | cons_cons a h ih => simp; omega
theorem delv_le (c : List Int) (x : Int) : (delv c x).length ≤ c.length := List.length_filter_le _ _
theorem nextv_lits (l : List (List Int)) (x : Int) : litsOf (nextv l x) ≤ litsOf (l.filter fun c => !has c x) := by
  unfold nextv litsOf
  induction (l.filter fun c => !has c x) with
  | nil => simp
  | cons c r ih => have := delv_le c x; simp only [List.map_cons, List.sum_cons] at *; omega
theorem filter_lits {l : List (List Int)} {p : List Int → Bool} {c : List Int} (hc : c ∈ l) (hp : p c = false) : litsOf (l.filter p) + c.length ≤ litsOf l := by
  induction l with
  | nil => simp at hc
  | cons d r ih =>
    rcases List.mem_cons.1 hc with rfl | hc
    · have := litsOf_sub (List.filter_sublist (p := p) (l := r))
      rw [List.filter_cons_of_neg (by rw [hp]; simp)]
      simp only [litsOf, List.map_cons, List.sum_cons] at *
      omega
    · have := ih hc
      by_cases h : p d = true
      · rw [List.filter_cons_of_pos h]
        simp only [litsOf, List.map_cons, List.sum_cons] at *
        omega
      · rw [List.filter_cons_of_neg h]
        simp only [litsOf, List.map_cons, List.sum_cons] at *
        omega
/-- A clause of one literal. -/
theorem hit_unit {l : List (List Int)} (h : ¬ firstIdx (hitAt (fun c => c.length == 1) l) l.length < 0) : ∃ x, rd (l.getD (firstIdx (hitAt (fun c => c.length == 1) l) l.length).toNat []) 0 = x ∧ [x] ∈ l := by
  obtain ⟨h1, h2, _⟩ := firstFrom_hit _ _ _ _ h
  change (firstIdx _ _).toNat < _ at h1
  change hitAt _ _ (firstIdx _ _).toNat = true at h2
  generalize (firstIdx (hitAt (fun c => c.length == 1) l) l.length).toNat = i at *
  unfold hitAt at h2
  have e : l.getD i [] = l[i] := by simp [h1]
  rw [e] at h2 ⊢
  have hm := List.getElem_mem h1
  have hl : l[i].length = 1 := by simpa using h2
  obtain ⟨y, hy⟩ := List.length_eq_one_iff.1 hl
  rw [hy] at hm ⊢
  exact ⟨y, rfl, hm⟩
/-- No clause has a literal or its negation. -/
def Away (l : List (List Int)) (x : Int) : Prop := ∀ c ∈ l, x ∉ c ∧ -x ∉ c
theorem away_tidy {l : List (List Int)} {x : Int} (h : Away l x) : Away (tidyv l) x := fun c hc => by
  obtain ⟨d, hd, rfl⟩ := tidyv_from hc
  exact ⟨fun hm => (h d hd).1 (nrm_mem hm), fun hm => (h d hd).2 (nrm_mem hm)⟩
theorem nextv_from {l : List (List Int)} {x : Int} {c : List Int} (h : c ∈ nextv l x) : ∃ d ∈ l, has d x = false ∧ c = delv d x := by
  unfold nextv at h
  obtain ⟨d, hd, rfl⟩ := List.mem_map.1 h
  obtain ⟨h1, h2⟩ := List.mem_filter.1 hd
  exact ⟨d, h1, by simpa using h2, rfl⟩
theorem away_next {l : List (List Int)} {x : Int} (y : Int) (h : Away l x) : Away (nextv l y) x := fun c hc => by
  obtain ⟨d, hd, _, rfl⟩ := nextv_from hc
  exact ⟨fun hm => (h d hd).1 (List.mem_filter.1 hm).1, fun hm => (h d hd).2 (List.mem_filter.1 hm).1⟩
theorem away_self (l : List (List Int)) (x : Int) : Away (nextv l x) x := fun c hc => by
  obtain ⟨d, hd, hx, rfl⟩ := nextv_from hc
  refine ⟨fun hm => ?_, fun hm => ?_⟩
  · have := has_iff.2 (List.mem_filter.1 hm).1
    rw [hx] at this
    cases this
  · have := (List.mem_filter.1 hm).2
    simp at this
theorem okC_next {v : Int} {l : List (List Int)} (x : Int) (h : ∀ c ∈ l, OkC v c) : ∀ c ∈ nextv l x, OkC v c := fun c hc => by
  obtain ⟨d, hd, _, rfl⟩ := nextv_from hc
  exact okC_sub (h d hd) (delv_le d x) fun y hy => (List.mem_filter.1 hy).1
theorem nextv_len (l : List (List Int)) (x : Int) : (nextv l x).length ≤ l.length := by
  unfold nextv
  rw [List.length_map]
  exact List.length_filter_le _ _
/-- Clauses in which there are no units to tell. -/
def Still (l : List (List Int)) : Prop := l = [[]] ∨ (l.any (fun c => c.length == 0) = false ∧ firstIdx (hitAt (fun c => c.length == 1) l) l.length < 0)
theorem unitsF_ok : ∀ (k : Nat) (l : List (List Int)) (told : List Int) (v : Int), litsOf l < k → Tidied l → (∀ c ∈ l, OkC v c) → (∀ x ∈ told, Away l x ∧ badLit v x = false) →
    ∃ r t, unitsF k l told = some (r, t) ∧ Tidied r ∧ (∀ c ∈ r, OkC v c) ∧ (∀ x ∈ t, Away r x ∧ badLit v x = false) ∧ Still r ∧ (r.length ≤ l.length ∨ r.length ≤ 1) ∧ t.length + litsOf r ≤ told.length + litsOf l
  | 0, l, told, v, h, _, _, _ => by omega
  | k + 1, l, told, v, hk, hT, hO, hA => by
    unfold unitsF
    by_cases he : l.any (fun c => c.length == 0) = true
    · rw [if_pos he]
      exact ⟨_, _, rfl, ⟨by simp [nf_nil], by simp⟩, by simp [okC_nil], fun x hx => ⟨fun c hc => by obtain rfl := List.mem_singleton.1 hc; simp, (hA x hx).2⟩, .inl rfl, .inr (by simp), by simp [litsOf]⟩
    · rw [if_neg he]
      by_cases hi : firstIdx (hitAt (fun c => c.length == 1) l) l.length < 0
      · rw [if_pos hi]
        exact ⟨_, _, rfl, hT, hO, hA, .inr ⟨(Bool.not_eq_true _).mp he, hi⟩, .inl (Nat.le_refl _), Nat.le_refl _⟩
      · rw [if_neg hi]
        obtain ⟨x, ex, hx⟩ := hit_unit hi
        rw [ex]
        have h1 := tidyv_lits (nextv l x)
        have h2 := nextv_lits l x
        have h3 := filter_lits (p := fun c => !has c x) hx (by simp [has])
        simp only [List.length_singleton] at h3
        obtain ⟨r, t, e, g1, g2, g3, g4, g5, g6⟩ := unitsF_ok k (tidyv (nextv l x)) (told ++ [x]) v (by omega) (tidyv_tidied _) (okC_tidy (okC_next x hO)) (fun y hy => by
          rcases List.mem_append.1 hy with hy | hy
          · exact ⟨away_tidy (away_next x (hA y hy).1), (hA y hy).2⟩
          · obtain rfl := List.mem_singleton.1 hy
            exact ⟨away_tidy (away_self l y), by simpa using List.any_eq_false.1 (hO _ hx).2 y (by simp)⟩)
        rw [List.length_append, List.length_singleton] at g6
        refine ⟨r, t, e, g1, g2, g3, g4, ?_, by omega⟩
        have h4 := tidyv_length (nextv l x)
        have h5 := nextv_len l x
        omega
theorem unitsF_still {k : Nat} {l : List (List Int)} (told : List Int) (h : Still l) : unitsF (k + 1) l told = some (l, told) := by
  unfold unitsF
  rcases h with rfl | ⟨h1, h2⟩
  · simp
  · rw [if_neg (by rw [h1]; simp), if_pos h2]

/-! ## Clauses left away -/
theorem subv_sub (l : List (List Int)) : (subv l).Sublist l := List.filter_sublist
theorem subv_fix (l : List (List Int)) : subv (subv l) = subv l := by
  unfold subv
  refine List.filter_eq_self.2 fun c hc => ?_
  have h := (List.mem_filter.1 hc).2
  simp only [Bool.not_eq_true'] at *
  rw [List.any_eq_false] at *
  intro d hd
  exact h d (List.mem_filter.1 hd).1

/-! ## Clauses made shorter -/
theorem dropv_short {xs : List Int} {x : Int} (h : bsHas xs x = true) : (dropv xs x).length + 1 = xs.length := by
  unfold dropv
  rw [if_pos h]
  unfold bsHas at h
  rw [Bool.and_eq_true, decide_eq_true_eq] at h
  rw [List.length_append, List.length_take, List.length_drop]
  omega
theorem lstr_short {d c : List Int} (h : hitS d c = true) : (lstr d c).1.length < c.length := by
  obtain ⟨_, _, _, hl, _⟩ := @pairv_mem d c
  unfold hitS at h
  rw [Bool.and_eq_true] at h
  obtain ⟨_, h⟩ := h
  unfold lstr at h ⊢
  split at h
  · cases h
  · rename_i h1
    rw [if_neg h1]
    split at h
    · rename_i z hz
      split at h
      · rename_i hb
        simp only [if_pos hb]
        have := dropv_short hb
        omega
      · cases h
    · cases h
theorem lstr_sub {d c : List Int} {x : Int} (h : x ∈ (lstr d c).1) : x ∈ c := by
  obtain ⟨_, hm, _, _, _⟩ := @pairv_mem d c
  unfold lstr at h
  split at h
  · simp at h
  · split at h
    · split at h
      · exact hm x (dropv_mem h)
      · simp at h
    · simp at h
theorem findK_ok {l : List (List Int)} {i : Nat} : ∀ {f k : Nat} {x : List Int}, findK l i f k = some x → ∃ d, hitS d (l.getD i []) = true ∧ x = (lstr d (l.getD i [])).1
  | 0, k, x, h => by simp [findK] at h
  | f + 1, k, x, h => by
    simp only [findK] at h
    split at h
    · split at h
      · exact findK_ok h
      · split at h
        · rename_i hh
          injection h with h
          exact ⟨_, hh, h.symm⟩
        · exact findK_ok h
    · cases h
theorem findI_ok {l : List (List Int)} : ∀ {f i j : Nat} {x : List Int}, findI l f i = some (j, x) → j < l.length ∧ ∃ d, hitS d (l.getD j []) = true ∧ x = (lstr d (l.getD j [])).1
  | 0, i, j, x, h => by simp [findI] at h
  | f + 1, i, j, x, h => by
    simp only [findI] at h
    split at h
    · rename_i hi
      split at h
      · rename_i y hy
        injection h with h
        injection h with h1 h2
        subst h1; subst h2
        exact ⟨hi, findK_ok hy⟩
      · exact findI_ok h
    · cases h
theorem set_lits {l : List (List Int)} {j : Nat} {x : List Int} (hj : j < l.length) (hx : x.length < l[j].length) : litsOf (l.set j x) < litsOf l := by
  induction l generalizing j with
  | nil => simp at hj
  | cons c r ih =>
    cases j with
    | zero => simp [litsOf] at *; exact hx
    | succ j =>
      simp only [List.length_cons, List.getElem_cons_succ] at hj hx
      have := ih (by omega) hx
      simp only [litsOf, List.set_cons_succ, List.map_cons, List.sum_cons] at *
      omega
theorem shortv_step {l : List (List Int)} (h : (shortv l).2 = true) : ∃ j x, j < l.length ∧ shortv l = (tidyv (l.set j x), true) ∧ x.length < (l.getD j []).length ∧ ∀ y ∈ x, y ∈ l.getD j [] := by
  unfold shortv at h ⊢
  rcases hF : findI l (l.length + 1) 0 with _ | ⟨j, x⟩
  · rw [hF] at h; cases h
  · obtain ⟨hj, d, hh, rfl⟩ := findI_ok hF
    exact ⟨j, _, hj, rfl, lstr_short hh, fun y hy => lstr_sub hy⟩
theorem shortv_stop {l : List (List Int)} (h : ¬ (shortv l).2 = true) : shortv l = (l, false) := by
  unfold shortv at h ⊢
  rcases hF : findI l (l.length + 1) 0 with _ | ⟨j, x⟩
  · rfl
  · rw [hF] at h; exact absurd rfl h
theorem strF_ok : ∀ (k : Nat) (l : List (List Int)) (v : Int), litsOf l < k → Tidied l → (∀ c ∈ l, OkC v c) → ∃ r, strF k l = some r ∧ Tidied r ∧ (∀ c ∈ r, OkC v c) ∧ shortv r = (r, false) ∧ r.length ≤ l.length ∧ litsOf r ≤ litsOf l
  | 0, l, v, h, _, _ => by omega
  | k + 1, l, v, hk, hT, hO => by
    unfold strF
    by_cases h : (shortv l).2 = true
    · rw [if_pos h]
      have hl := shortv_length l
      obtain ⟨j, x, hj, e, hx, hm⟩ := shortv_step h
      rw [e] at hl ⊢
      have ej : l.getD j [] = l[j] := by simp [hj]
      rw [ej] at hx hm
      have h1 := set_lits hj hx
      have h2 := tidyv_lits (l.set j x)
      obtain ⟨r, e1, g1, g2, g3, g4, g5⟩ := strF_ok k (tidyv (l.set j x)) v (by omega) (tidyv_tidied _) (okC_tidy fun c hc => by
        rcases List.mem_or_eq_of_mem_set hc with hc | hc
        · exact hO c hc
        · rw [hc]; exact okC_sub (hO _ (List.getElem_mem hj)) (Nat.le_of_lt hx) hm)
      exact ⟨r, e1, g1, g2, g3, Nat.le_trans g4 hl, by omega⟩
    · rw [if_neg h]
      have e := shortv_stop h
      rw [e]
      exact ⟨l, rfl, hT, hO, e, Nat.le_refl _, Nat.le_refl _⟩
theorem strF_stop {k : Nat} {l : List (List Int)} (h : shortv l = (l, false)) : strF (k + 1) l = some l := by
  unfold strF
  rw [h]
  rfl

end Go.Proofs.Ythhmjfjkbmmcaaa
/- slices.Clone of a clause, as the printed texts ask for it. -/
namespace Go.Proofs.Ythhmjfjkbmmcaaa.GCS
open Go.RowKit Go.Proofs.YthhmjfjkbmmcaaaW.PrintWords Go.Proofs.YthhmjfjkbmmcaaaW.PrintLast Go.Proofs.YthhmjfjkbmmcaaaW.PrintMore
set_option linter.unusedVariables false
set_option linter.unusedSimpArgs false

def api_Clause_int.f (l0 : List Int) : Option (List Int) := if l0.length ≤ 1099511627776 then some l0 else none
theorem api_Clause_int.calls (A0 : Option Addr) (c0 : Nat) (l0 : List Int) (r : List Int) (w : World) (hr0 : Kd.C (Kd.int .i64) w A0 l0.length l0) (hc0 : l0.length ≤ c0) (h : api_Clause_int.f l0 = some r) :
    Calls Try.prog 41 #[.slice A0 l0.length c0] w fun e w' => ∃ v0_ : Value, e = .returned (v0_) ∧ Kd.R (Kd.int .i64) 3 w' w.heap.size (fun _ => True) v0_ r ∧ Below w.heap.size w w' := by
  unfold api_Clause_int.f at h
  split at h
  · rename_i hb
    cases h
    refine (clone_41 A0 l0.length c0 (nums .i64 l0) w (rowN_ints hr0) (by omega)).mono ?_
    rintro e w' ⟨v, rfl, ho, hb⟩
    exact ⟨v, rfl, Kd.R_of_own (h1 := fun _ => rfl) ho (fun _ _ => trivial), hb⟩
  · cases h

end Go.Proofs.Ythhmjfjkbmmcaaa.GCS
