/- slices.Clone of a clause, as the printed texts ask for it. -/
import Derived.Maps.Own
import Derived.Maps.OwnOps
import Derived.Maps.Views
import Derived.Test.YthhmjfjkbmmcaaaKWNEv
import Derived.Test.YthhmjfjkbmmcaaaKWMore
import Derived.Test.YthhmjfjkbmmcaaaKRA
/- clean.tidy: a map of texts, a row of rows. -/
namespace Go.Proofs.Ythhmjfjkbmmcaaa
open Go.RowKit Go.Proofs.YthhmjfjkbmmcaaaW.PrintWords Go.Proofs.YthhmjfjkbmmcaaaW.PrintLast Go.Proofs.YthhmjfjkbmmcaaaW.PrintMore
set_option linter.unusedVariables false
set_option linter.unusedSimpArgs false

def keyLit (xs : List Int) : Lit := .string (strOfNums (keyNums xs)).data.toList
theorem key4_inj {x y : Int} (hx : LitOk x) (hy : LitOk y) (h : key4 x = key4 y) : x = y := by
  unfold key4 at h
  unfold LitOk at hx hy
  simp only [List.cons.injEq, and_true] at h
  omega
theorem key4_range {x z : Int} (h : z ∈ key4 x) : 0 ≤ z ∧ z < 256 := by
  simp only [key4, List.mem_cons, List.not_mem_nil, or_false] at h
  omega
theorem keyNums_inj : ∀ {a b : List Int}, (∀ x ∈ a, LitOk x) → (∀ x ∈ b, LitOk x) → keyNums a = keyNums b → a = b
  | [], [], _, _, _ => rfl
  | [], y :: b, _, _, h => by have := congrArg List.length h; rw [keyNums_length, keyNums_length] at this; simp at this
  | x :: a, [], _, _, h => by have := congrArg List.length h; rw [keyNums_length, keyNums_length] at this; simp at this
  | x :: a, y :: b, ha, hb, h => by
    have h' : key4 x ++ keyNums a = key4 y ++ keyNums b := h
    obtain ⟨h1, h2⟩ := List.append_inj h' rfl
    rw [key4_inj (ha x (by simp)) (hb y (by simp)) h1, keyNums_inj (fun z hz => ha z (by simp [hz])) (fun z hz => hb z (by simp [hz])) h2]
theorem keyNums_range {xs : List Int} {z : Int} (h : z ∈ keyNums xs) : 0 ≤ z ∧ z < 256 := by
  unfold keyNums at h
  rw [List.mem_flatMap] at h
  obtain ⟨x, _, hz⟩ := h
  exact key4_range hz
theorem bytes_inj : ∀ {a b : List Int}, (∀ z ∈ a, 0 ≤ z ∧ z < 256) → (∀ z ∈ b, 0 ≤ z ∧ z < 256) → (a.map fun n => UInt8.ofNat n.toNat) = (b.map fun n => UInt8.ofNat n.toNat) → a = b
  | [], [], _, _, _ => rfl
  | [], y :: b, _, _, h => by simp at h
  | x :: a, [], _, _, h => by simp at h
  | x :: a, y :: b, ha, hb, h => by
    simp only [List.map_cons, List.cons.injEq] at h
    have hx := ha x (by simp)
    have hy := hb y (by simp)
    have h1 := congrArg UInt8.toNat h.1
    simp only [UInt8.toNat_ofNat'] at h1
    have : x = y := by omega
    rw [this, bytes_inj (fun z hz => ha z (by simp [hz])) (fun z hz => hb z (by simp [hz])) h.2]
theorem keyLit_inj {a b : List Int} (ga : Good a) (gb : Good b) (h : keyLit a = keyLit b) : a = b := by
  unfold keyLit at h
  injection h with h
  rw [strOfNums_data, strOfNums_data] at h
  exact keyNums_inj ga.2 gb.2 (bytes_inj (fun z hz => keyNums_range hz) (fun z hz => keyNums_range hz) h)

/-- Block b of w is a map in which just the keys of these clauses are, each once. -/
def MapIs (w : World) (b n : Nat) (S : List (List Int)) : Prop :=
  ∃ D : DataW Unit, Maps.IsMap D ∧ w.ownsMap Try.prog 9 (plainElem Try.prog 3) b n D ∧ ∀ xs, Good xs → D.atKey (keyLit xs) (.lit (.int .i64 0)) = .lit (.int .i64 (if xs ∈ S then 1 else 0))
theorem MapIs.made (w : World) : MapIs (w.alloc (.map #[] 0)) w.heap.size 0 [] :=
  ⟨.map [], Maps.isMap_empty, World.ownsMap_made w _ _ _, fun xs _ => by simp [DataW.atKey]⟩
theorem MapIs.kept {w w' : World} {b n : Nat} {S : List (List Int)} {row : Option Nat} (h : MapIs w b n S) (hg : w.grownBy w' row) (hne : some b ≠ row) : MapIs w' b n S := by
  obtain ⟨D, h1, h2, h3⟩ := h
  exact ⟨D, h1, h2.kept hg hne, h3⟩
theorem MapIs.mono {w : World} {b n n' : Nat} {S : List (List Int)} (h : MapIs w b n S) (hn : n ≤ n') : MapIs w b n' S := by
  obtain ⟨D, h1, h2, h3⟩ := h
  exact ⟨D, h1, h2.mono hn, h3⟩
theorem MapIs.lt {w : World} {b n : Nat} {S : List (List Int)} (h : MapIs w b n S) : b < w.heap.size := by
  obtain ⟨D, h1, h2, h3⟩ := h
  exact h2.lt
theorem MapIs.below {w w' : World} {b n : Nat} {S : List (List Int)} (h : MapIs w b n S) (hb : Below w.heap.size w w') : MapIs w' b n S := h.kept (grown_of_below hb none) (by simp)
theorem keyOf_key {xs : List Int} (g : Good xs) : keyOf Try.prog 9 (.string (strOfNums (keyNums xs))) = some (keyLit xs) :=
  WideMaps.keyOf_string_mk Try.underlying9 (by rw [strOfNums_size, keyNums_length]; have := g.1; unfold maxLen; omega)
theorem MapIs.look {w : World} {b n : Nat} {S : List (List Int)} (h : MapIs w b n S) {xs : List Int} (g : Good xs) :
    (Instr.lookup 75 (.map (some b)) (.string (strOfNums (keyNums xs))) false).run Try.prog w = .ok (.int .i64 (if xs ∈ S then 1 else 0)) w := by
  obtain ⟨D, h1, h2, h3⟩ := h
  obtain ⟨c, hrun, hat, _⟩ := h2.lookup_int (t := 75) (e := 3) (q := .i64) (key := .string (strOfNums (keyNums xs))) (kl := keyLit xs) (Maps.string_keyed Try.underlying9) Try.underlying75 Try.underlying3 (Try.zeroValue3 w) (keyOf_key g)
  rw [h3 xs g] at hat
  obtain ⟨_, hat⟩ := Lit.int.inj (DataW.lit.inj hat)
  rw [hrun, hat]
theorem MapIs.upd {w : World} {b n : Nat} {S : List (List Int)} (h : MapIs w b n S) {xs : List Int} (g : Good xs) (hn : n < 1099511627776 * 1024) :
    ∃ w', (Instr.mapUpdate 75 (.map (some b)) (.string (strOfNums (keyNums xs))) (.int .i64 1)).run Try.prog w = .ok () w' ∧ MapIs w' b (n + 1) (S ++ [xs]) ∧ w.grownBy w' (some b) := by
  obtain ⟨D, h1, h2, h3⟩ := h
  obtain ⟨w', hrun, hown, hg⟩ := h2.update (t := 75) (e := 3) (Maps.string_keyed Try.underlying9) Try.underlying75 (by unfold maxLen; omega) (keyOf_key g) (plainElem_int (H := Unit) Try.underlying3 (a := 1) (by decide))
  refine ⟨w', hrun, ⟨_, h1.put _ _, hown, fun ys gy => ?_⟩, hg⟩
  by_cases he : ys = xs
  · subst he
    rw [Maps.atKey_put_same (k := keyLit ys) h1 (show WideAt.IsKeyLit (.string _) from trivial)]
    simp
  · rw [Maps.atKey_put_other (fun hk => he (keyLit_inj gy g hk)), h3 ys gy]
    simp [he]

/-- What a row of whole numbers is read by: its own block alone. -/
theorem F_block {w : World} {A : Option Addr} {n : Nat} {xs : List Int} (h : (Kd.int .i64).C w A n xs) : Kd.F (Kd.int .i64) w (fun k => ∃ ad, A = some ad ∧ k = ad.block) A n xs := by
  intro W' hW
  refine ⟨h.1, h.2.1, fun hn => ?_⟩
  obtain ⟨ad, e, hc⟩ := h.2.2 hn
  refine ⟨ad, e, fun j p hj => ?_⟩
  obtain ⟨c, hl, hk, hcc⟩ := hc j p hj
  refine ⟨c, hl, hk, fun i u hu => ?_⟩
  have h1 := hcc i u hu
  have hb : (ad.add (j * (Kd.int .i64).sz + i)).block = ad.block := by unfold Addr.add; split <;> rfl
  have hlt := World.block_lt_of_cell? w _ h1
  rw [hb] at hlt
  rw [← h1]
  exact World.cell?_of_block (by rw [hb]; exact hW ad.block ⟨ad, e, rfl⟩ hlt)

def tidyStep (out : List (List Int)) (c : List Int) : List (List Int) := if (nrm c).2 then (if (nrm c).1 ∈ out then out else out ++ [(nrm c).1]) else out
/-- Clauses in their normal forms, each once. -/
def tidyv (ls : List (List Int)) : List (List Int) := ls.foldl tidyStep []
theorem tidyv_take {ls : List (List Int)} {i : Nat} {l : List Int} (h : ls[i]? = some l) : tidyv (ls.take (i + 1)) = tidyStep (tidyv (ls.take i)) l := by
  unfold tidyv
  rw [List.take_add_one, h]
  simp
theorem tidyStep_length (out : List (List Int)) (c : List Int) : (tidyStep out c).length ≤ out.length + 1 := by
  unfold tidyStep
  split
  · split
    · omega
    · simp
  · omega
theorem tidyv_length (ls : List (List Int)) : (tidyv ls).length ≤ ls.length := by
  have h : ∀ i, i ≤ ls.length → (tidyv (ls.take i)).length ≤ i := by
    intro i
    induction i with
    | zero => intro _; simp [tidyv]
    | succ i ih =>
      intro hi
      rw [tidyv_take (List.getElem?_eq_getElem (by omega))]
      have := tidyStep_length (tidyv (ls.take i)) (ls[i]'(by omega))
      have := ih (by omega)
      omega
  have := h ls.length (Nat.le_refl _)
  rwa [List.take_length] at this
theorem nrm_good {c : List Int} (g : Good c) : Good (nrm c).1 := ⟨Nat.le_trans (nrm_length c) g.1, fun x hx => g.2 x (nrm_mem hx)⟩
theorem info43 : (Try.prog.info? 43).map (fun i => (i.zero, i.size, i.bytes)) = some (some (.slice none 0 0), 1, 24) := by kernel_rfl

abbrev kClause : Kd (List Int) := Kd.slice 3 (Kd.int .i64)

set_option maxRecDepth 100000 in
set_option maxHeartbeats 4000000 in
theorem tidy_calls (A : Option Addr) (c : Nat) (ls : List (List Int)) (w : World) (hr : Kd.C kClause w A ls.length ls) (hg : ∀ l ∈ ls, Good l) (hmax : ls.length ≤ 4398046511104) :
    Calls Try.prog 22 #[.slice A ls.length c] w fun e w' => ∃ v, e = .returned v ∧ Kd.V kClause 43 w' w.heap.size (fun k_ => (w.heap.size ≤ k_)) v (tidyv ls) ∧ Below w.heap.size w w' := by
  have HR := Aside0.mk hr
  have HG := Aside0.mk hg
  obtain ⟨n, hn⟩ : ∃ n, n = ls.length := ⟨_, rfl⟩
  have HN := Aside0.mk hn
  rw [← hn] at hmax HR ⊢
  clear hr hg hn
  have hmk : ∀ w : World, (Instr.makeMap 75 none).run Try.prog w = .ok (.map (some w.heap.size)) (w.alloc (.map #[] 0)) := fun w => run_makeMap _ w
  go_enter Try.func22, Try.ntmps22
  go_wp2
  obtain ⟨b, hb⟩ : ∃ b, b = w.heap.size := ⟨_, rfl⟩
  obtain ⟨w1, hw1⟩ : ∃ w1, w1 = w.alloc (.map #[] 0) := ⟨_, rfl⟩
  have HM := Aside0.mk (show MapIs w1 b 0 [] by rw [hw1, hb]; exact MapIs.made w)
  have HB := Aside0.mk (show Below w.heap.size w w1 by rw [hw1]; exact below_alloc (Below.refl _ _) _)
  have HBB := Aside0.mk hb
  rw [← hw1, ← hb]
  clear hw1 hb
  go_loopg [4, 6, 7, 8, 12] (n + 1) (fun kq v4 v6 v7 v8 v12 w' => ∃ i : Nat, v12 = .int .i64 (i : Int) ∧ Aside0 (Kd.N kClause 43 w' w.heap.size (fun k => w.heap.size ≤ k ∧ k ≠ b) v4 (tidyv (ls.take i))) ∧ Aside0 (MapIs w' b i (tidyv (ls.take i))) ∧ i ≤ n ∧ Aside0 (n < kq + i) ∧ Aside0 (Below w.heap.size w w'))
  case atStart => exact ⟨0, rfl, ⟨Kd.N_nil _ _ _ _ _⟩, HM, Nat.zero_le _, ⟨by omega⟩, HB⟩
  case round =>
    clear HM HB
    obtain ⟨i, rfl, HO, HM, hin, HK, HB⟩ := hrel
    cases gk with
    | zero => exact absurd HK.out (by omega)
    | succ k =>
      by_cases hlt : i < n
      · obtain ⟨ad, A0, c0, l, e, hl, hc, hlc, hrl⟩ := at_rows (Kd.C_below HR.out HB.out) i (by have := HN.out; omega)
        cases e
        have HL := Aside0.mk hrl
        have hgl := HG.out l (List.mem_of_getElem? hl)
        have HGL := Aside0.mk hgl
        have HT := Aside0.mk (tidyv_take hl)
        obtain ⟨m, hm⟩ : ∃ m, m = l.length := ⟨_, rfl⟩
        have HNC := Aside0.mk (show Calls Try.prog 43 #[.slice A0 m c0] wr _ by rw [hm]; exact Normal_calls A0 c0 l wr hrl hgl)
        have hgn := nrm_good hgl
        have hts := tidyStep.eq_1 (tidyv (ls.take i)) l
        rcases hq : nrm l with ⟨y, ok⟩
        rw [hq] at HNC hgn hts
        rw [← hm] at hc
        simp only at HNC hgn hts
        have HY := Aside0.mk hgn
        obtain ⟨m2, hm2⟩ : ∃ m2, m2 = y.length := ⟨_, rfl⟩
        rw [← hm2] at HNC
        clear hl hrl hgl hgn hq hm
        cases ok with
        | false =>
          have HS := Aside0.mk (HT.out.trans (show _ = tidyv (ls.take i) from hts))
          clear hts hm2
          go_wp2_with (go_at_call 43; refine HNC.out.mono ?_; rintro e w2 ⟨B, d, rfl, rfl, hC, hfr, hb2⟩; have HB2 := Aside0.mk hb2; clear hC hfr hb2)
          go_roundg k
          case measure => omega
          case rel => exact ⟨i + 1, by go_num, ⟨by rw [HS.out]; exact Kd.N_below HO.out HB2.out⟩, ⟨by rw [HS.out]; exact (HM.out.below HB2.out).mono (by omega)⟩, by omega, ⟨by have := HK.out; omega⟩, ⟨below_then HB.out HB.out.size HB2.out⟩⟩
        | true =>
          obtain ⟨s, hs⟩ : ∃ s, s = strOfNums (keyNums y) := ⟨_, rfl⟩
          have HKY : Aside0 (∀ (W : World) (B : Option Addr) (d : Nat), Kd.C (Kd.int .i64) W B m2 y → Calls Try.prog 44 #[.slice B m2 d] W fun e w' => e = .returned (.string s) ∧ Below W.heap.size W w') := ⟨fun W B d h => by rw [hm2] at h ⊢; rw [hs]; exact key_calls B d y W h HY.out⟩
          by_cases hin2 : y ∈ tidyv (ls.take i)
          · have HS := Aside0.mk (HT.out.trans (show _ = tidyv (ls.take i) from hts.trans (by rw [if_pos rfl, if_pos hin2])))
            have HLK : Aside0 (∀ W : World, MapIs W b i (tidyv (ls.take i)) → (Instr.lookup 75 (.map (some b)) (.string s) false).run Try.prog W = .ok (.int .i64 1) W) := ⟨fun W h => by have := h.look HY.out; rw [if_pos hin2, ← hs] at this; exact this⟩
            clear hts hm2 hin2 hs
            go_wp2_with (first | (go_at_call 43; refine HNC.out.mono ?_; rintro e w2 ⟨B, d, rfl, rfl, hC, hfr, hb2⟩; have HB2 := Aside0.mk hb2; have HC := Aside0.mk hC; have HM2 := Aside0.mk (HM.out.below hb2); clear hC hfr hb2) | (go_at_call 44; refine (HKY.out _ _ _ HC.out).mono ?_; rintro e w3 ⟨rfl, hb3⟩; have hlk := HLK.out _ (HM2.out.below hb3); have HB3 := Aside0.mk (below_then HB2.out HB2.out.size hb3); clear hb3))
            go_roundg k
            case measure => omega
            case rel => exact ⟨i + 1, by go_num, ⟨by rw [HS.out]; exact Kd.N_below HO.out HB3.out⟩, ⟨by rw [HS.out]; exact (HM.out.below HB3.out).mono (by omega)⟩, by omega, ⟨by have := HK.out; omega⟩, ⟨below_then HB.out HB.out.size HB3.out⟩⟩
          · have HS := Aside0.mk (HT.out.trans (show _ = tidyv (ls.take i) ++ [y] from hts.trans (by rw [if_pos rfl, if_neg hin2])))
            have HLK : Aside0 (∀ W : World, MapIs W b i (tidyv (ls.take i)) → (Instr.lookup 75 (.map (some b)) (.string s) false).run Try.prog W = .ok (.int .i64 0) W) := ⟨fun W h => by have := h.look HY.out; rw [if_neg hin2, ← hs] at this; exact this⟩
            have HUP : Aside0 (∀ W : World, MapIs W b i (tidyv (ls.take i)) → ∃ w', (Instr.mapUpdate 75 (.map (some b)) (.string s) (.int .i64 1)).run Try.prog W = .ok () w' ∧ MapIs w' b (i + 1) (tidyv (ls.take i) ++ [y]) ∧ W.grownBy w' (some b)) := ⟨fun W h => by rw [hs]; exact h.upd HY.out (by omega)⟩
            have HLEN := Aside0.mk (show (tidyv (ls.take i)).length ≤ i from Nat.le_trans (tidyv_length _) (by rw [List.length_take]; omega))
            have HM2E := Aside0.mk hm2
            clear hts hm2 hin2 hs
            go_wp2_with (first | (go_at_call 43; refine HNC.out.mono ?_; rintro e w2 ⟨B, d, rfl, rfl, hC, hfr, hb2⟩; have HB2 := Aside0.mk hb2; have HF := Aside0.mk (F_block hC); have HC := Aside0.mk hC; have HFR := Aside0.mk hfr; have HM2 := Aside0.mk (HM.out.below hb2); clear hC hfr hb2) | (go_at_call 44; first | (refine (HKY.out _ _ _ HC.out).mono ?_; clear HC; rintro e w3 ⟨rfl, hb3⟩; have hlk := HLK.out _ (HM2.out.below hb3); have HM3 := Aside0.mk (HM2.out.below hb3); have HF3 := Aside0.mk (Kd.F_below HF.out hb3); have HB3 := Aside0.mk (below_then HB2.out HB2.out.size hb3); clear hb3) | (refine (HKY.out _ _ _ (Kd.F_now HF3.out)).mono ?_; rintro e w4 ⟨rfl, hb4⟩; have hlk2 := HLK.out _ (HM3.out.below hb4); obtain ⟨w5, hup, hm5, hg5⟩ := HUP.out _ (HM3.out.below hb4); have HM5 := Aside0.mk hm5; have HB4 := Aside0.mk (below_then HB3.out HB3.out.size hb4); have HF5 := Aside0.mk (Kd.F_grown (Kd.F_below HF3.out hb4) hg5 (by rintro k ⟨ad, e1, e2⟩ e3; have h1 := HFR.out ad e1; have h2 := HM.out.lt; injection e3 with e3; omega)); have HO5 := Aside0.mk (Kd.N_grown (Kd.N_below HO.out HB4.out) hg5 (by rintro k ⟨_, e1⟩ e2; injection e2 with e2; exact e1 e2)); have HB5 := Aside0.mk ((below_then HB.out HB.out.size HB4.out).grown hg5 (below_then HB.out HB.out.size HB4.out).size (by rintro k e1; injection e1 with e1; have := HBB.out; omega)); have HSZ5 := Aside0.mk (Nat.le_trans HB4.out.size hg5.size); clear hm5 hg5 hb4)) | (at_builtin; refine Kd.N_append kClause w.heap.size rfl (.tmp 35) (.tmp 37) 22 43 (.slice none 0 0) 24 rfl Try.underlying22 info43 rfl (by decide) (by omega) _ _ y [.slice B d d] _ (fun k => ∃ ad, B = some ad ∧ k = ad.block) rfl rfl (by rw [HM2E.out] at HF5 ⊢; exact Kd.FK_slice_mk (Nat.le_refl _) HF5.out) (by rintro k ⟨ad, e1, rfl⟩; have h1 := HFR.out ad e1; have h2 := HM.out.lt; have h3 := HB.out.size; exact ⟨⟨by omega, by omega⟩, fun e2 => by have := Kd.N_lt HO.out _ e2.symm; omega⟩) (fun k hk => ⟨by have := HB5.out.size; omega, by have := HM5.out.lt; omega⟩) HO5.out HB5.out HB5.out.size (by have := HLEN.out; omega) ?_; intro v1 w6 hN hb6 hg6 hat6; have HO6 := Aside0.mk hN; have HB6 := Aside0.mk hb6; have HM6 := Aside0.mk (HM5.out.kept hg6 (fun e => (HO5.out.1 b e.symm).2 rfl)); clear hN hb6 hg6 hat6))
            go_roundg k
            case measure => omega
            case rel => exact ⟨i + 1, by go_num, ⟨by rw [HS.out]; exact HO6.out⟩, ⟨by rw [HS.out]; exact HM6.out⟩, by omega, ⟨by have := HK.out; omega⟩, HB6⟩
      · obtain rfl : i = n := by omega
        go_wp2
        go_ret
        have hq := HO.out
        rw [show ls.take i = ls by rw [HN.out, List.take_length]] at hq
        exact ⟨_, rfl, Kd.V_mono (Kd.N_V hq) (fun k hk => hk.1), HB.out⟩

end Go.Proofs.Ythhmjfjkbmmcaaa
/- The hand-walked functions of clean, as the printed texts ask for them. -/
namespace Go.Proofs.Ythhmjfjkbmmcaaa.GCS
open Go.RowKit Go.Proofs.YthhmjfjkbmmcaaaW.PrintWords Go.Proofs.YthhmjfjkbmmcaaaW.PrintLast Go.Proofs.YthhmjfjkbmmcaaaW.PrintMore
set_option linter.unusedVariables false
set_option linter.unusedSimpArgs false

instance (x : Int) : Decidable (LitOk x) := inferInstanceAs (Decidable (_ ∧ _))
instance (l : List Int) : Decidable (Good l) := inferInstanceAs (Decidable (_ ∧ _))

def clean_has.f (l0 : List Int) (a1 : Int) : Option (Bool) := some (has l0 a1)
theorem clean_has.calls (A0 : Option Addr) (c0 : Nat) (l0 : List Int) (a1 : Int) (r : Bool) (w : World) (hr0 : Kd.C (Kd.int .i64) w A0 l0.length l0) (hc0 : l0.length ≤ c0) (h : clean_has.f l0 a1 = some r) :
    Calls Try.prog 40 #[.slice A0 l0.length c0, .int .i64 a1] w fun e w' => e = .returned (.bool r) ∧ Below w.heap.size w w' := by
  injection h with h
  subst h
  exact (has_calls A0 c0 l0 a1 w hr0).mono fun e w' ⟨h1, h2⟩ => ⟨h1, by rw [h2]; exact Below.refl _ _⟩

def clean_tidy.f (l0 : List (List Int)) : Option ((List (List Int))) := if (∀ l ∈ l0, Good l) ∧ l0.length ≤ 4398046511104 then some (tidyv l0) else none
theorem clean_tidy.calls (A0 : Option Addr) (c0 : Nat) (l0 : List (List Int)) (r : List (List Int)) (w : World) (hr0 : Kd.C (Kd.slice 3 (Kd.int .i64)) w A0 l0.length l0) (hc0 : l0.length ≤ c0) (h : clean_tidy.f l0 = some r) :
    Calls Try.prog 22 #[.slice A0 l0.length c0] w fun e w' => ∃ v0_ : Value, e = .returned (v0_) ∧ Kd.V (Kd.slice 3 (Kd.int .i64)) 43 w' w.heap.size (fun k_ => (w.heap.size ≤ k_)) v0_ r ∧ Below w.heap.size w w' := by
  unfold clean_tidy.f at h
  split at h
  · rename_i hb
    injection h with h
    subst h
    exact tidy_calls A0 c0 l0 w hr0 hb.1 hb.2
  · cases h

def lits_Resolve.f (l0 : List Int) (l1 : List Int) (a2 : Int) : Option (List Int × Int) := if Good l0 ∧ Good l1 ∧ LitOk a2 then some (resv l0 l1 a2) else none
theorem lits_Resolve.calls (A0 : Option Addr) (c0 : Nat) (l0 : List Int) (A1 : Option Addr) (c1 : Nat) (l1 : List Int) (a2 : Int) (r1 : List Int) (r2 : Int) (w : World) (hr0 : Kd.C (Kd.int .i64) w A0 l0.length l0) (hc0 : l0.length ≤ c0) (hr1 : Kd.C (Kd.int .i64) w A1 l1.length l1) (hc1 : l1.length ≤ c1) (h : lits_Resolve.f l0 l1 a2 = some (r1, r2)) :
    Calls Try.prog 42 #[.slice A0 l0.length c0, .slice A1 l1.length c1, .int .i64 a2] w fun e w' => ∃ v0_ : Value, e = .returned (.tuple #[v0_, .int .i64 r2]) ∧ Kd.V (Kd.int .i64) 3 w' w.heap.size (fun k_ => (w.heap.size ≤ k_)) v0_ r1 ∧ Below w.heap.size w w' := by
  unfold lits_Resolve.f at h
  split at h
  · rename_i hb
    injection h with h
    refine (resolve_calls A0 A1 c0 c1 l0 l1 a2 w hr0 hr1 hb.1 hb.2.1 hb.2.2).mono ?_
    rw [h]
    rintro e w' ⟨X, d, rfl, rfl, hC, hfr, hB⟩
    exact ⟨_, rfl, Kd.V_mk (Nat.le_refl _) (Kd.F_mono (F_block hC) (by rintro k ⟨ad, e1, rfl⟩; exact hfr ad e1)), hB⟩
  · cases h

end Go.Proofs.Ythhmjfjkbmmcaaa.GCS
/- slices.Clone of a clause, as the printed texts ask for it. -/
namespace Go.Proofs.Ythhmjfjkbmmcaaa.GCS
open Go.RowKit Go.Proofs.YthhmjfjkbmmcaaaW.PrintWords Go.Proofs.YthhmjfjkbmmcaaaW.PrintLast Go.Proofs.YthhmjfjkbmmcaaaW.PrintMore
set_option linter.unusedVariables false
set_option linter.unusedSimpArgs false

def api_Clause_int.f (l0 : List Int) : Option (List Int) := if l0.length ≤ 1099511627776 then some l0 else none
theorem api_Clause_int.calls (A0 : Option Addr) (c0 : Nat) (l0 : List Int) (r : List Int) (w : World) (hr0 : Kd.C (Kd.int .i64) w A0 l0.length l0) (hc0 : l0.length ≤ c0) (h : api_Clause_int.f l0 = some r) :
    Calls Try.prog 41 #[.slice A0 l0.length c0] w fun e w' => ∃ v0_ : Value, e = .returned (v0_) ∧ Kd.R (Kd.int .i64) 3 w' w.heap.size (fun _ => True) v0_ r ∧ Below w.heap.size w w' := by
  unfold api_Clause_int.f at h
  split at h
  · rename_i hb
    cases h
    refine (clone_41 A0 l0.length c0 (nums .i64 l0) w (rowN_ints hr0) (by omega)).mono ?_
    rintro e w' ⟨v, rfl, ho, hb⟩
    exact ⟨v, rfl, Kd.R_of_own (h1 := fun _ => rfl) ho (fun _ _ => trivial), hb⟩
  · cases h

end Go.Proofs.Ythhmjfjkbmmcaaa.GCS
