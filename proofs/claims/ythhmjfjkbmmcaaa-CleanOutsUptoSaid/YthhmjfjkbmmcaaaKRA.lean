/- clean.key. -/
import Derived.Test.YthhmjfjkbmmcaaaKWN
import Derived.Test.YthhmjfjkbmmcaaaKWMore
import Derived.Test.YthhmjfjkbmmcaaaProg
import Derived.Below
import Derived.Deep.Draws
import Derived.Deep.AppendLies
import Derived.Maps.AppendAt
import Derived.OwnWalk
import Derived.Laws.BytesArg
import Derived.Laws.MakeOwn
import Derived.Laws.OwnMore
import Derived.Deep.OwnRows
import Derived.Tactics
import Derived.Lib.ConvBytes
import Derived.Laws.Slices
import Derived.WalkKit
import Derived.KernelRfl
import Derived.RowKit3
import Derived.Deep.LoopGhost
import Derived.Deep.QuietTactic
import Derived.BigQuiet
import Derived.WideLaws
import Derived.Deep.DeepCutAuto
import Derived.Deep.CutBlock
import Derived.Deep.RegionHeld3
import Derived.Laws.Rows
import Derived.Lib.AppendStr
import Derived.ArgAppend
import Derived.Laws.IdiomCopy
import Derived.OrdersHeld
import Derived.Laws.BitsLemmas
import Derived.RowKit
import Derived.Test.YthhmjfjkbmmcaaaKWWords
import Derived.Test.YthhmjfjkbmmcaaaKWLast
import Derived.Test.YthhmjfjkbmmcaaaKWTab
import Derived.Test.YthhmjfjkbmmcaaaKWFour
import Derived.Test.YthhmjfjkbmmcaaaKWQPut
import Derived.Test.YthhmjfjkbmmcaaaKWApart
import Derived.Test.YthhmjfjkbmmcaaaKWArr
import Derived.Test.YthhmjfjkbmmcaaaKWZeros
import Derived.Test.YthhmjfjkbmmcaaaKWFoot
import Derived.Test.YthhmjfjkbmmcaaaKWKept
import Derived.Test.YthhmjfjkbmmcaaaKWShare
import Derived.Test.YthhmjfjkbmmcaaaKWFootNe
import Derived.Test.YthhmjfjkbmmcaaaKWAt
import Derived.Test.YthhmjfjkbmmcaaaKWEqStruct
import Derived.Test.YthhmjfjkbmmcaaaKWRepsOne
import Derived.Test.YthhmjfjkbmmcaaaKWInv
import Derived.Test.YthhmjfjkbmmcaaaKWInvWords
import Derived.Test.YthhmjfjkbmmcaaaKWGuard
import Derived.Test.YthhmjfjkbmmcaaaKWNEv
import Derived.Shelf.Small.Bits
import Derived.Shelf.Strconv.Itoa0
import Derived.Ground.SlgnProg
import Derived.Shelf.SlicesE.Clone
import Derived.Ground.SlsfProg
import Derived.Shelf.SlSortCmp.Insertion
import Derived.Shelf.SlSortCmp.SiftDown1
import Derived.Shelf.SlSortCmp.HeapSort1
import Derived.Shelf.SlSortCmp.Insertion1
import Derived.Shelf.SlSortCmp.Median1
import Derived.Shelf.SlSortCmp.Pivot1
import Derived.Shelf.SlSortCmp.ReverseRange1
import Derived.Shelf.SlSortCmp.PartialInsertion1
import Derived.Shelf.SlSortCmp.PartitionEqual1
import Derived.Shelf.SlSortCmp.Partition1
import Derived.Shelf.SlSortCmp.Pdq1
import Derived.WalkLawsBesides
import Derived.WalkSpells
import Derived.Lib.OwnBridge
import Derived.Lib.AppendZeros
import Derived.Shelf.SlicesE.Compact
import Derived.Laws.CopyOwn
import Derived.Deep.RegionWith
import Derived.StillTailTactics
/- Rows of clauses whose own rows may be written, too. -/
namespace Go.Proofs.Ythhmjfjkbmmcaaa
open Go.RowKit Go.Proofs.YthhmjfjkbmmcaaaW.PrintWords Go.Proofs.YthhmjfjkbmmcaaaW.PrintLast Go.Proofs.YthhmjfjkbmmcaaaW.PrintMore
set_option linter.unusedVariables false
set_option linter.unusedSimpArgs false

/-- A slice that is nil, or a row of numbers in a block from B on, as long as the slice may grow. -/
def OwnBlk (w : World) (B : Nat) (A : Option Addr) (c : Nat) : Prop :=
  (A = none ∧ c = 0) ∨ ∃ g cells, A = some ⟨g, 0, none⟩ ∧ B ≤ g ∧ w.heap[g]? = some (.cells cells 3 (0, 0)) ∧ c ≤ cells.size
theorem OwnBlk.step {w w1 : World} {B : Nat} {A : Option Addr} {c : Nat} (h : OwnBlk w B A c) (hb : ∀ g, B ≤ g → (∃ ad, A = some ad ∧ g = ad.block) → g < w.heap.size → w1.heap[g]? = w.heap[g]?) : OwnBlk w1 B A c := by
  rcases h with h | ⟨g, cells, rfl, hg, hh, hc⟩
  · exact .inl h
  · exact .inr ⟨g, cells, rfl, hg, (hb g hg ⟨_, rfl, rfl⟩ (blk_lt hh)).trans hh, hc⟩
theorem OwnBlk.below {w w1 : World} {B : Nat} {A : Option Addr} {c : Nat} (h : OwnBlk w B A c) (hb : Below w.heap.size w w1) : OwnBlk w1 B A c := h.step fun g _ _ hlt => hb.block g hlt
/-- A clause's cell, of which the clause's own row may be written. -/
def kOwn (B : Nat) : Kd (List Int) where
  sz := 1
  E := []
  K := fun w xs cs => ∃ A c, cs = [.slice A xs.length c] ∧ xs.length ≤ c ∧ (Kd.int .i64).C w A xs.length xs ∧ OwnBlk w B A c
  M := fun _ _ _ _ _ => False
  K_len := by
    rintro w x cs ⟨A, c, rfl, _⟩
    rfl
  K_one := by
    rintro w x cs ⟨A, c, rfl, _⟩ u hu
    rw [List.mem_singleton.1 hu]
    rfl
  K_below := by
    rintro w w1 x cs hb ⟨A, c, rfl, hl, hr, ho⟩
    exact ⟨A, c, rfl, hl, Kd.C_below hr hb, ho.below hb⟩
  K_of_M := fun h => h.elim
  M_mono := fun _ h => h
  M_bound := fun h => h
  M_move := fun _ h => h
  M_lower := fun _ h => h
theorem FK_own {W : World} {B : Nat} {ok : Nat → Prop} {A : Option Addr} {n c : Nat} {xs : List Int} (h : Kd.R (Kd.int .i64) 3 W B ok (.slice A n c) xs) : Kd.FK (kOwn B) W ok xs [.slice A n c] := fun W' hW => by
  have hR := Kd.R_step h hW
  obtain ⟨h1, h2, h3⟩ := Kd.R_reads' hR
  subst h1
  obtain ⟨inner, ho⟩ := Kd.R_own hR
  refine ⟨A, c, rfl, h2, h3, ?_⟩
  rcases ho.2 with ⟨he, _⟩ | ⟨g, cap, cur, he, hg, hh, _, _, hs, _⟩
  · injection he with h4 h5 h6
    exact .inl ⟨h4, h6⟩
  · injection he with h4 h5 h6
    have hs' : cur.size = cap * 1 := hs
    exact .inr ⟨g, cur, h4, hg, hh, by omega⟩
/-- It is read as any row of clauses. -/
theorem kOwn_C {w : World} {B : Nat} {A : Option Addr} {n : Nat} {xs : List (List Int)} (h : (kOwn B).C w A n xs) : Kd.C (Kd.slice 3 (Kd.int .i64)) w A n xs := ReadsRow.imp_ h (Below.refl _ _) (fun _ _ ⟨A, c, h1, h2, h3, _⟩ => ⟨A, c, h1, h2, h3⟩)
theorem heap_new2o (w : World) (o o' : Obj) : ((w.alloc o).alloc o').heap[w.heap.size + 1]? = some o' := by
  have := heap_alloc_new (w.alloc o) o'
  rwa [show (w.alloc o).heap.size = w.heap.size + 1 by simp] at this

end Go.Proofs.Ythhmjfjkbmmcaaa
-- written by a program of this session's own (gprint.py), after the kit's print
namespace Go.Proofs.Ythhmjfjkbmmcaaa.GCS
open Go.RowKit Go.Proofs.YthhmjfjkbmmcaaaW.PrintWords Go.Proofs.YthhmjfjkbmmcaaaW.PrintLast Go.Proofs.YthhmjfjkbmmcaaaW.PrintMore
attribute [local go_sem] max2_int min2_int max_two min_two max_three min_three max_four min_four   -- for this text's walks alone
set_option linter.unusedVariables false
set_option linter.unusedSimpArgs false



def errW : Option Int → Value
  | none => .nilIface
  | some c => .iface 0 (.int .i64 c)
theorem errW_none : errW none = .nilIface := rfl
theorem errW_some (c : Int) : errW (some c) = .iface 0 (.int .i64 c) := rfl

theorem info43 : (Try.prog.info? 43).map (fun i => (i.zero, i.size, i.bytes)) = some (some (.slice none 0 0), 1, 24) := by kernel_rfl
-- the values' own types
def rd_L1 (xs : List (List Int)) (i : Int) : (List Int) := xs.getD i.toNat ([] : List Int)
theorem at_L1 {w : World} {A : Option Addr} {n : Nat} {xs : List (List Int)} (h : Kd.C (Kd.slice 3 (Kd.int .i64)) w A n xs) (i : Int) (h0 : 0 ≤ i) (h1 : i < n) : ∃ ad A0 c0, A = some ad ∧ w.cell? (ad.add i.toNat) = some (.slice A0 (rd_L1 xs i).length c0) ∧ (rd_L1 xs i).length ≤ c0 ∧ (Kd.int .i64).C w A0 (rd_L1 xs i).length (rd_L1 xs i) := by
  obtain ⟨ad, c, e, _, hK, hc0⟩ := Kd.C_get h ([] : List Int) i h0 h1
  have hc : ∀ j u, c[j]? = some u → w.cell? (ad.add (i.toNat * 1 + j)) = some u := hc0
  obtain ⟨A0, c0, rfl, l0, g0⟩ := hK
  exact ⟨ad, A0, c0, e, by have hq := hc 0 _ rfl; rwa [Nat.mul_one, Nat.add_zero] at hq, l0, g0⟩

/-! #### struct type 24 -/
structure S24 where
  f0 : Int
  f1 : (List (List Int))
def z24 : S24 := ⟨(0 : Int), ([] : List (List Int))⟩
end Go.Proofs.Ythhmjfjkbmmcaaa.GCS
/-
  DERIVED: THE SHELF's CONTRACTS AT THIS DUMP, IN PLAIN WORDS (tools/lay-plain.mjs out of 'TryShelf.lean', which tools/lay-shelf.mjs wrote): THE SAME DECLARATIONS UNDER THE SAME NAMES: 'import', 'namespace', 'open', 'def', 'theorem' AND NOTHING ELSE: no command of the shelf's: FOR A HAND-IN. Each laying: the table of numbers ('.._ren') and one theorem, a field a fact of the dump's own or the kernel's comparison; each contract: ONE APPLICATION.
-/
namespace Go.Proofs
open Go.Shelf
def Try.lays125_ren : Go.Shelf.Ren := ⟨fun | 125 => 92 | 128 => 102 | 129 => 103 | n => n, fun | 46 => 99 | 3 => 3 | 51 => 121 | 53 => 123 | 4 => 4 | 5 => 5 | 9 => 9 | n => n, fun | n => n⟩
theorem Try.lays125 : Go.Proofs.Lays.n125 Try.prog Try.lays125_ren := {
  mixed := by kernel_rfl
  f125 := Try.func92.trans (congrArg some (by kernel_rfl))
  f128 := Try.func102.trans (congrArg some (by kernel_rfl))
  f129 := Try.func103.trans (congrArg some (by kernel_rfl))
  t3 := Try.underlying3
  a3 := Try.isAgg3
  z3 := Try.sizeOf3
  v3 := Try.zeroValue3
  t4 := Try.underlying4
  a4 := Try.isAgg4
  z4 := Try.sizeOf4
  v4 := Try.zeroValue4
  t5 := Try.underlying5
  a5 := Try.isAgg5
  z5 := Try.sizeOf5
  v5 := Try.zeroValue5
  t9 := Try.underlying9
  a9 := Try.isAgg9
  z9 := Try.sizeOf9
  v9 := Try.zeroValue9
  t46 := Try.underlying99
  a46 := Try.isAgg99
  z46 := Try.sizeOf99
  v46 := Try.zeroValue99
  t51 := Try.underlying121
  a51 := Try.isAgg121
  z51 := Try.sizeOf121
  v51 := Try.zeroValue121
  t53 := Try.underlying123
  a53 := Try.isAgg123
  z53 := Try.sizeOf123
  v53 := Try.zeroValue123 }
/-- bits.Len: "Len returns the minimum number of bits required to represent x; the result is 0 for x == 0.": IT RETURNS 'Lib.bitLen x'; the world is as it was. (A uint has 64 bits in the model.) ITS CALLEE bits.Len64 IS MET BY ITS OWN CONTRACT OFF THE SHELF (lay that first). (LAID: no walk: one application.) -/
theorem Try.bits_Len (x : Int) (w : World) (h0 : 0 ≤ x) (h1 : x ≤ 18446744073709551615) :
    Calls Try.prog 92 #[.int .u64 x] w fun e w' => e = .returned (.int .i64 (Lib.bitLen x.toNat)) ∧ w' = w := Any.bits_Len Try.lays125 x w h0 h1
def Try.laysSlE041_f34_ren : Go.Shelf.Ren := ⟨fun | 41 => 34 | n => n, fun | 22 => 44 | 23 => 4 | 4 => 4 | n => n, fun | n => n⟩
theorem Try.laysSlE041_f34 : Go.Proofs.SlLaysE0.n41 Try.prog Try.laysSlE041_f34_ren := {
  mixed := by kernel_rfl
  f41 := ⟨Try.f34.name, by decide, Try.func34.trans (congrArg some (by kernel_rfl))⟩
  t4 := Try.underlying4
  a4 := Try.isAgg4
  z4 := Try.sizeOf4
  v4 := Try.zeroValue4
  t22 := Try.underlying44
  a22 := Try.isAgg44
  z22 := Try.sizeOf44
  v22 := Try.zeroValue44 }
open Go.RowKit Go.Lib in
/-- slices.Clone: "Clone returns a copy of the slice. The elements are copied using assignment, so this is a shallow clone. The result may have additional unused capacity. The result preserves the nilness of s.": OF A SLICE THAT IS NOT nil IT RETURNS A SLICE THAT IS NOT nil, OF THE SAME CELLS, IN MEMORY OF THE CALL's OWN ('ownsRow': the how-to's 6f); below the heap's size at the call all is as it was. (LAID AT THE INSTANCE 'slices.Clone[[]bool,bool]': no walk: one application.) -/
theorem Try.slices_Clone (i0 : TypeInfo) (z : Value) (size bytes : Nat) (hi : Try.prog.info? 4 = some i0) (hz0 : i0.zero = some z) (hz1 : i0.size = size) (hz2 : i0.bytes = bytes) (hzs : z.cells.size = size) (hsz : 0 < size) (z23 : ∀ w, (Go.sizeOf 4).run Try.prog w = .ok size w) (b off n c : Nat) (news : List Value) (w : World) (hl : news.length = n * size) (hn : n ≤ maxLen) (hbig : n * bytes ≤ 140737488355328) (hc : ∀ j u, news[j]? = some u → w.cell? ⟨b, off + j, none⟩ = some u) (h1 : ∀ u ∈ news, u.oneCell' = true) :
    Calls Try.prog 34 #[.slice (some ⟨b, off, none⟩) n c] w fun e w' => ∃ v', e = .returned v' ∧ w'.ownsRow w.heap.size 4 size v' n news ∧ v' ≠ .slice none 0 0 ∧ Below w.heap.size w w' := AnyE.slices_Clone Try.laysSlE041_f34 i0 z size bytes hi hz0 hz1 hz2 hzs hsz z23 b off n c news w hl hn hbig hc h1
def Try.laysSlF14_f91_ren : Go.Shelf.Ren := ⟨fun | 14 => 91 | 20 => 94 | 21 => 95 | 22 => 96 | 23 => 97 | 24 => 98 | 25 => 99 | 26 => 100 | 27 => 101 | 46 => 104 | 47 => 105 | 48 => 106 | 49 => 107 | 50 => 108 | 15 => 92 | 57 => 109 | 28 => 102 | 29 => 103 | n => n, fun | 24 => 3 | 22 => 40 | 3 => 3 | 25 => 107 | 4 => 4 | 0 => 0 | 46 => 115 | 45 => 114 | 50 => 91 | 66 => 124 | 39 => 99 | 55 => 123 | 70 => 128 | 76 => 130 | 77 => 131 | 53 => 121 | 5 => 5 | 9 => 9 | n => n, fun | n => n⟩
theorem Try.laysSlF14_f91 : Go.Proofs.SlLaysF.n14 Try.prog Try.laysSlF14_f91_ren := {
  mixed := by kernel_rfl
  f14 := ⟨Try.f91.name, by decide, Try.func91.trans (congrArg some (by kernel_rfl))⟩
  f15 := Try.func92.trans (congrArg some (by kernel_rfl))
  f20 := ⟨Try.f94.name, by decide, Try.func94.trans (congrArg some (by kernel_rfl))⟩
  f21 := ⟨Try.f95.name, by decide, Try.func95.trans (congrArg some (by kernel_rfl))⟩
  f22 := ⟨Try.f96.name, by decide, Try.func96.trans (congrArg some (by kernel_rfl))⟩
  f23 := ⟨Try.f97.name, by decide, Try.func97.trans (congrArg some (by kernel_rfl))⟩
  f24 := ⟨Try.f98.name, by decide, Try.func98.trans (congrArg some (by kernel_rfl))⟩
  f25 := ⟨Try.f99.name, by decide, Try.func99.trans (congrArg some (by kernel_rfl))⟩
  f26 := ⟨Try.f100.name, by decide, Try.func100.trans (congrArg some (by kernel_rfl))⟩
  f27 := ⟨Try.f101.name, by decide, Try.func101.trans (congrArg some (by kernel_rfl))⟩
  f28 := Try.func102.trans (congrArg some (by kernel_rfl))
  f29 := Try.func103.trans (congrArg some (by kernel_rfl))
  f46 := ⟨Try.f104.name, by decide, Try.func104.trans (congrArg some (by kernel_rfl))⟩
  f47 := Try.func105.trans (congrArg some (by kernel_rfl))
  f48 := Try.func106.trans (congrArg some (by kernel_rfl))
  f49 := ⟨Try.f107.name, by decide, Try.func107.trans (congrArg some (by kernel_rfl))⟩
  f50 := ⟨Try.f108.name, by decide, Try.func108.trans (congrArg some (by kernel_rfl))⟩
  f57 := ⟨Try.f109.name, by decide, Try.func109.trans (congrArg some (by kernel_rfl))⟩
  t0 := Try.underlying0
  a0 := Try.isAgg0
  z0 := Try.sizeOf0
  v0 := Try.zeroValue0
  t3 := Try.underlying3
  a3 := Try.isAgg3
  z3 := Try.sizeOf3
  v3 := Try.zeroValue3
  t4 := Try.underlying4
  a4 := Try.isAgg4
  z4 := Try.sizeOf4
  v4 := Try.zeroValue4
  t5 := Try.underlying5
  a5 := Try.isAgg5
  z5 := Try.sizeOf5
  v5 := Try.zeroValue5
  t9 := Try.underlying9
  a9 := Try.isAgg9
  z9 := Try.sizeOf9
  v9 := Try.zeroValue9
  t22 := Try.underlying40
  a22 := Try.isAgg40
  z22 := Try.sizeOf40
  v22 := Try.zeroValue40
  a24 := Try.isAgg3
  z24 := Try.sizeOf3
  t25 := Try.underlying107
  a25 := Try.isAgg107
  z25 := Try.sizeOf107
  v25 := Try.zeroValue107
  t39 := Try.underlying99
  a39 := Try.isAgg99
  z39 := Try.sizeOf99
  v39 := Try.zeroValue99
  t45 := Try.underlying114
  a45 := Try.isAgg114
  z45 := Try.sizeOf114
  v45 := Try.zeroValue114
  t46 := Try.underlying115
  a46 := Try.isAgg115
  z46 := Try.sizeOf115
  v46 := Try.zeroValue115
  t50 := Try.underlying91
  a50 := Try.isAgg91
  z50 := Try.sizeOf91
  v50 := Try.zeroValue91
  t53 := Try.underlying121
  a53 := Try.isAgg121
  z53 := Try.sizeOf121
  v53 := Try.zeroValue121
  t55 := Try.underlying123
  a55 := Try.isAgg123
  z55 := Try.sizeOf123
  v55 := Try.zeroValue123
  t66 := Try.underlying124
  a66 := Try.isAgg124
  z66 := Try.sizeOf124
  v66 := Try.zeroValue124
  t70 := Try.underlying128
  a70 := Try.isAgg128
  z70 := Try.sizeOf128
  v70 := Try.zeroValue128
  t76 := Try.underlying130
  a76 := Try.isAgg130
  z76 := Try.sizeOf130
  v76 := Try.zeroValue130
  t77 := Try.underlying131
  a77 := Try.isAgg131
  z77 := Try.sizeOf131
  v77 := Try.zeroValue131 }
open Go.RowKit Go.Lib Go.Sort in
/-- slices.pdqsortCmpFunc at elements of one cell, WHOLE. (After Derived/Shelf/SlSortFuncK/PdqK.lean, row for row: the slots and the regions' numbers are this body's.) (LAID AT THE INSTANCE 'slices.pdqsortCmpFunc[int]': no walk: one application.) -/
theorem Try.pdqsortCmpFunc_all {α : Type} [Inhabited α] (enc : α → Value) (cf : α → α → Int) (g : Nat) (cb : Array Value) (hO : SWO (ltOf cf)) (blk off cap : Nat) (d0 : Array α) (w0 : World) (eg : ∀ args w, (callFunc g args).run Try.prog w = .ok (.enter g args) w) (hcmp : CmpLays1 Try.prog g cb enc cf blk off d0.size w0) (R : Row1 enc w0 blk off d0) :
    ∀ (N a b limit : Nat) (d : Array α) (w : World), b - a < N → d0.size = d.size → SW enc w0 blk off d w → a ≤ b → b ≤ d.size → d.size < 4611686018427387904 → limit < 4611686018427387904 → Below (ltOf cf) a b d →
    Calls Try.prog 91 #[.slice (some ⟨blk, off, none⟩) d.size cap, .int .i64 a, .int .i64 b, .int .i64 limit, .func (.func g) #[] cb] w fun e w' => e = .returned (.tuple #[]) ∧ SW enc w0 blk off (pdq (ltOf cf) d a b limit true true) w' := Any.pdqsortCmpFunc_all Try.laysSlF14_f91 enc cf g cb hO blk off cap d0 w0 eg hcmp R
end Go.Proofs
/- The base of this seat's own walks: words on slices that are read, the law of slices.IndexFunc at whatever predicate. -/
namespace Go.Proofs.Ythhmjfjkbmmcaaa
open Go.RowKit Go.Proofs.YthhmjfjkbmmcaaaW.PrintWords Go.Proofs.YthhmjfjkbmmcaaaW.PrintLast Go.Proofs.YthhmjfjkbmmcaaaW.PrintMore
set_option linter.unusedVariables false
set_option linter.unusedSimpArgs false

/-- The cells of a slice of one-cell elements, as they are read. -/
def Row1 (w : World) (A : Option Addr) (vs : List Value) : Prop :=
  vs.length ≤ 9223372036854775807 ∧ (0 < vs.length → ∃ ad, A = some ad ∧ ∀ (i : Nat) (v : Value), vs[i]? = some v → w.cell? (ad.add i) = some v)

theorem Row1.below {w w1 : World} {A : Option Addr} {vs : List Value} (h : Row1 w A vs) (hb : Below w.heap.size w w1) : Row1 w1 A vs :=
  ⟨h.1, fun hn => by
    obtain ⟨ad, e, hc⟩ := h.2 hn
    exact ⟨ad, e, fun i v hv => pw_cell_below hb (hc i v hv)⟩⟩

/-- The first place below n, from i on, at which p says yes; or -1. -/
def firstFrom (p : Nat → Bool) (n : Nat) : Nat → Nat → Int
  | 0, _ => -1
  | k + 1, i => if i < n then (if p i then (i : Int) else firstFrom p n k (i + 1)) else -1
def firstIdx (p : Nat → Bool) (n : Nat) : Int := firstFrom p n (n + 1) 0

/-- What a predicate answers at each element of a row, in every world in which all that lay lies unturned. -/
def PredRow (P : Program) (g : Nat) (lb : Array Value) (vs : List Value) (p : Nat → Bool) (w : World) : Prop :=
  ∀ (i : Nat) (v : Value), vs[i]? = some v → ∀ W, Below w.heap.size w W → Calls P g (#[v] ++ lb) W fun e w' => e = .returned (.bool (p i)) ∧ Below W.heap.size W w'

-- IndexFunc over ints
set_option maxHeartbeats 1000000 in
theorem indexFunc_63 (g : Nat) (lb : Array Value) (eg : ∀ args w, (callFunc g args).run Try.prog w = .ok (.enter g args) w)
    (A : Option Addr) (n c : Nat) (vs : List Value) (p : Nat → Bool) (w : World) (hn : vs.length = n) (hr : Row1 w A vs) (hp : PredRow Try.prog g lb vs p w) :
    Calls Try.prog 63 #[.slice A n c, .func (.func g) #[] lb] w fun e w' => e = .returned (.int .i64 (firstIdx p n)) ∧ Below w.heap.size w w' := by
  have hmax : n ≤ 9223372036854775807 := by have := hr.1; omega
  have HP := Aside0.mk hp
  have HR := Aside0.mk hr
  have HN := Aside0.mk hn
  have H0 := Aside0.mk (show firstFrom p n (n + 1) 0 = firstIdx p n from rfl)
  clear hp hr hn
  go_enter Try.func63, Try.ntmps63
  go_wp2
  go_loopg [5, 8] (n + 1) (fun kq v5 v8 w' => ∃ i : Nat, v8 = .int .i64 (i : Int) ∧ Aside0 (firstFrom p n kq i = firstIdx p n) ∧ i ≤ n ∧ Aside0 (n < kq + i) ∧ Aside0 (Below w.heap.size w w'))
  case atStart => exact ⟨0, rfl, H0, Nat.zero_le _, ⟨by omega⟩, ⟨Below.refl _ _⟩⟩
  case round =>
    clear H0
    obtain ⟨i, rfl, HF, hi, HK, HB⟩ := hrel
    cases gk with
    | zero => exact absurd HK.out (by omega)
    | succ k =>
      have hf := HF.out
      clear HF
      simp only [firstFrom] at hf
      by_cases hlt : i < n
      · rw [if_pos hlt] at hf
        have HF := Aside0.mk hf
        clear hf
        obtain ⟨ad, e, hc⟩ := (HR.out.below (HB.out)).2 (by have := HN.out; omega)
        cases e
        obtain ⟨v, hv⟩ : ∃ v, vs[i]? = some v := ⟨_, List.getElem?_eq_getElem (by have := HN.out; omega)⟩
        have hcell := hc i v hv
        have HV := Aside0.mk hv
        clear hc hv
        have hb0 : decide ((i : Int) < (n : Int)) = true := decide_eq_true (by omega)
        go_wp2
        refine (HP.out i v HV.out wr HB.out).mono ?_
        rintro e w1 ⟨rfl, hb1⟩
        have HB1 := Aside0.mk (below_then HB.out HB.out.size hb1)
        clear hb1 hcell HV HB
        cases hpi : p i with
        | true =>
          have hf := HF.out
          rw [if_pos hpi] at hf
          have HF := Aside0.mk hf
          clear hf hpi
          go_wp2
          go_ret
          exact ⟨by rw [← HF.out]; rfl, HB1.out⟩
        | false =>
          have hf := HF.out
          rw [if_neg (by rw [hpi]; simp)] at hf
          have HF := Aside0.mk hf
          clear hf hpi
          go_wp2
          go_roundg k
          case measure => omega
          case rel => exact ⟨i + 1, by go_num, HF, by omega, ⟨by have := HK.out; omega⟩, HB1⟩
      · rw [if_neg hlt] at hf
        have hb0 : decide ((i : Int) < (n : Int)) = false := decide_eq_false (by omega)
        have HF := Aside0.mk hf
        clear hf
        go_wp2
        go_ret
        exact ⟨by rw [← HF.out]; rfl, HB.out⟩

end Go.Proofs.Ythhmjfjkbmmcaaa
/- Clones of slices; appends of what is read. -/
namespace Go.Proofs.Ythhmjfjkbmmcaaa
open Go.RowKit Go.Proofs.YthhmjfjkbmmcaaaW.PrintWords Go.Proofs.YthhmjfjkbmmcaaaW.PrintLast Go.Proofs.YthhmjfjkbmmcaaaW.PrintMore
set_option linter.unusedVariables false
set_option linter.unusedSimpArgs false

/-- The cells of a slice of n elements of so many cells, as they are read. -/
def RowN (w : World) (size : Nat) (A : Option Addr) (n : Nat) (cs : List Value) : Prop :=
  cs.length = n * size ∧ n ≤ 9223372036854775807 ∧ (0 < n → ∃ ad, A = some ad ∧ ∀ (j : Nat) (u : Value), cs[j]? = some u → w.cell? (ad.add j) = some u) ∧ ∀ u ∈ cs, u.oneCell' = true
theorem RowN.below {w w1 : World} {size : Nat} {A : Option Addr} {n : Nat} {cs : List Value} (h : RowN w size A n cs) (hb : Below w.heap.size w w1) : RowN w1 size A n cs :=
  ⟨h.1, h.2.1, fun hn => by
    obtain ⟨ad, e, hc⟩ := h.2.2.1 hn
    exact ⟨ad, e, fun i v hv => pw_cell_below hb (hc i v hv)⟩, h.2.2.2⟩

section laws
variable {P : Program} {ops : Array Oper} {rest : List Oper} {o : Oper} {a : Act} {Q : Exit → Act → World → Prop}
theorem law_appends {W : World} (hgd : o.guard = none) (s x : Operand) (t e : TypeId) (z : Value) (size bytes : Nat)
    (ho : o.op = .call { callee := .builtin .append, args := #[s, x], argTypes := #[t, t] })
    (ht : P.underlying t = some (.slice e)) (hinfo : (P.info? e).map (fun i => (i.zero, i.size, i.bytes)) = some (some z, size, bytes)) (hzs : z.cells.size = size) (hsz : 0 < size) (hb0 : 0 < bytes)
    (base : Nat) (v : Value) (n : Nat) (xs : List Value) (hs : a.eval s = v) (hown : W.ownsRow base e size v n xs)
    (A : Option Addr) (m c : Nat) (news : List Value) (hx : a.eval x = .slice A m c) (hsrc : RowN W size A m news)
    (hbytes : (n + m) * bytes ≤ 140737488355328) (hbase : base ≤ W.heap.size)
    (h : ∀ v1 w1, w1.ownsRow base e size v1 (n + m) (xs ++ news) → W.grownBy w1 v.ownBlock → (v1.ownBlock = v.ownBlock ∨ ∃ b, v1.ownBlock = some b ∧ W.heap.size ≤ b) → wpList P ops Q rest (a.put o.dst v1) w1) :
    wpList P ops Q (o :: rest) a W := by
  obtain ⟨i0, hi, hzz⟩ := Option.map_eq_some_iff.1 hinfo
  simp only [Prod.mk.injEq] at hzz
  obtain ⟨hz0, hz1, hz2⟩ := hzz
  have hlen : n + m ≤ 140737488355328 := Nat.le_trans (Nat.le_mul_of_pos_right _ hb0) hbytes
  obtain ⟨hl, _, hcl, h1⟩ := hsrc
  have hrun : ∃ v1 w1, (Builtin.append_ #[t, t] o.type #[v, .slice A m c]).run P W = .ok v1 w1 ∧ w1.ownsRow base e size v1 (n + m) (xs ++ news) ∧ W.grownBy w1 v.ownBlock ∧ (v1.ownBlock = v.ownBlock ∨ v1.ownBlock = some W.heap.size) := by
    rcases A with _ | ad
    · have h0 : m = 0 := by
        rcases Nat.eq_zero_or_pos m with h0 | h0
        · exact h0
        · obtain ⟨ad, h, _⟩ := hcl h0
          cases h
      subst h0
      obtain rfl : news = [] := List.eq_nil_of_length_eq_zero (by rw [hl]; omega)
      refine ⟨v, W, ?_, by simpa using hown, World.grownBy.refl W _, .inl rfl⟩
      rcases hown.2 with ⟨rfl, hn⟩ | ⟨g, cap, cur, rfl, _, _, hnc, _⟩
      · simp [Builtin.append_, run_underlying ht, sizeOf, typeInfo, hi, Builtin.lenOf, Builtin.firstCells]
      · simp [Builtin.append_, run_underlying ht, sizeOf, typeInfo, hi, Builtin.lenOf, Builtin.firstCells, hnc, storeCells]
    · have hcells : ∀ j u, news[j]? = some u → W.cell? (ad.add j) = some u := by
        intro j u hu
        have hj : j < news.length := by
          rcases Nat.lt_or_ge j news.length with h | h
          · exact h
          · simp [List.getElem?_eq_none h] at hu
        have hm : 0 < m := by
          rcases Nat.eq_zero_or_pos m with h0 | h0
          · rw [hl, h0] at hj; simp at hj
          · exact h0
        obtain ⟨ad', h', hc⟩ := hcl hm
        injection h' with h'
        subst h'
        exact hc j u hu
      obtain ⟨v1, w1, hr, h2, h3, _, h5⟩ := run_append_own_at (P := P) W base t o.type e i0 z size bytes ht hi hz0 hz1 hz2 hzs hsz v n xs hown ad m c news hl hcells h1 (by simp only [maxLen]; omega) hbytes hbase
      exact ⟨v1, w1, hr, h2, h3, h5⟩
  obtain ⟨v1, w1, hr, hown1, hg, hat⟩ := hrun
  refine wpList_plain hgd fun K hK => ?_
  unfold Oper.wp execOp
  simp only [ho, resolve, invoke, builtin, Sem.run_bind, Sem.run_pure, Result.andThen_ok, List.map_toArray, List.map_cons, List.map_nil, hs, hx, hr]
  refine hK _ _ (h v1 w1 hown1 hg ?_)
  rcases hat with hat | hat
  · exact .inl hat
  · exact .inr ⟨_, hat, Nat.le_refl _⟩
end laws

theorem infoInt : (Try.prog.info? 3).map (fun i => (i.zero, i.size, i.bytes)) = some (some (.int .i64 0), 1, 8) := by kernel_rfl

set_option maxHeartbeats 1000000 in
theorem clone_41 (A : Option Addr) (n c : Nat) (cs : List Value) (w : World) (hr : RowN w 1 A n cs) (hb : n * 8 ≤ 140737488355328) :
    Calls Try.prog 41 #[.slice A n c] w fun e w' => ∃ v, e = .returned v ∧ w'.ownsRow w.heap.size 3 1 v n cs ∧ Below w.heap.size w w' := by
  have q43 : ∀ (w : World) (a : Option Addr) (n c n' c' : Nat), (binOp .eql 43 (.slice a n c) (.slice none n' c')).run Try.prog w = .ok (.bool a.isNone) w := fun w a n c n' c' => Lib.run_eql_slice_nil w _ _ a n c n' c' Try.underlying43
  have HR := Aside0.mk hr
  have HBY := Aside0.mk hb
  clear hr hb
  cases A with
  | none =>
    obtain rfl : n = 0 := by
      rcases Nat.eq_zero_or_pos n with h | h
      · exact h
      · obtain ⟨ad, e, _⟩ := HR.out.2.2.1 h
        cases e
    obtain rfl : cs = [] := List.eq_nil_of_length_eq_zero (by have := HR.out.1; omega)
    go_enter Try.func41, Try.ntmps41
    go_wp2
    go_ret
    exact ⟨_, rfl, World.ownsRow_nil _ _ _ _, Below.refl _ _⟩
  | some ad =>
    go_enter Try.func41, Try.ntmps41
    go_wp2_with (at_builtin; refine law_appends rfl (.tmp 5) (.tmp 6) 43 3 (.int .i64 0) 1 8 rfl Try.underlying43 infoInt rfl (by omega) (by omega) w.heap.size _ 0 [] rfl (World.ownsRow_made w #[] 0 (Nat.le_refl _) (Nat.zero_le _) (by simp)) (some ad) n c cs rfl (HR.out.below (below_alloc (Below.refl _ _) _)) (by have := HBY.out; omega) (by simp) ?_; intro v1 w1 hown hg hat)
    have HO := Aside0.mk hown
    have HB := Aside0.mk ((below_alloc (Below.refl w.heap.size w) (.cells #[] 3)).grown hg (by simp) (by intro k hk; injection hk with hk; exact Nat.le_of_eq hk))
    clear hown hg hat
    go_wp2
    go_ret
    exact ⟨_, rfl, by have := HO.out; simpa using this, HB.out⟩
end Go.Proofs.Ythhmjfjkbmmcaaa
/- The order of literals; where a literal stands in a clause (trestle/lits.order, find). -/
namespace Go.Proofs.Ythhmjfjkbmmcaaa
open Go.RowKit Go.Proofs.YthhmjfjkbmmcaaaW.PrintWords Go.Proofs.YthhmjfjkbmmcaaaW.PrintLast Go.Proofs.YthhmjfjkbmmcaaaW.PrintMore
attribute [local go_sem] max2_int min2_int max_two min_two max_three min_three max_four min_four
set_option linter.unusedVariables false
set_option linter.unusedSimpArgs false

/-- A literal's variable. -/
def vr (x : Int) : Int := if x < -x then -x else x
/-- How literals are put in order. -/
def ordv (x y : Int) : Int := if vr x = vr y then x - y else vr x - vr y
def Sml (x : Int) : Prop := -1099511627776 ≤ x ∧ x ≤ 1099511627776
theorem vr_bd {x : Int} (h : Sml x) : 0 ≤ vr x ∧ vr x ≤ 1099511627776 := by
  unfold vr Sml at *
  split <;> omega

theorem variable_calls (x : Int) (w : World) (h : Sml x) : Calls Try.prog 90 #[.int .i64 x] w fun e w' => e = .returned (.int .i64 (vr x)) ∧ w = w' := by
  have h1 : -1099511627776 ≤ x := h.1
  have h2 : x ≤ 1099511627776 := h.2
  by_cases hc : x < -x
  · go_enter Try.func90, Try.ntmps90
    go_wp2
    go_ret
    exact ⟨by unfold vr; rw [if_pos hc]; rfl, rfl⟩
  · go_enter Try.func90, Try.ntmps90
    go_wp2
    go_ret
    exact ⟨by unfold vr; rw [if_neg (by omega)]; rfl, rfl⟩

set_option maxHeartbeats 1000000 in
theorem order_calls (x y : Int) (w : World) (hx : Sml x) (hy : Sml y) : Calls Try.prog 83 #[.int .i64 x, .int .i64 y] w fun e w' => e = .returned (.int .i64 (ordv x y)) ∧ w = w' := by
  have bx := vr_bd hx
  have bY := vr_bd hy
  obtain ⟨b1, b2⟩ := bx
  obtain ⟨b3, b4⟩ := bY
  have h1 : -1099511627776 ≤ x := hx.1
  have h2 : x ≤ 1099511627776 := hx.2
  have h3 : -1099511627776 ≤ y := hy.1
  have h4 : y ≤ 1099511627776 := hy.2
  have HX := Aside0.mk hx
  have HY := Aside0.mk hy
  clear hx hy
  by_cases hv : vr x = vr y
  · have hq : (vr x != vr y) = false := by simp [hv]
    have HV := Aside0.mk hv
    clear hv
    go_enter Try.func83, Try.ntmps83
    go_wp2_with (first | (go_at_call_of 90 x; refine (variable_calls x _ HX.out).mono ?_; rintro e w' ⟨rfl, rfl⟩) | (go_at_call_of 90 y; refine (variable_calls y _ HY.out).mono ?_; rintro e w' ⟨rfl, rfl⟩))
    go_ret
    exact ⟨by unfold ordv; rw [if_pos HV.out]; rfl, rfl⟩
  · have hq : (vr x != vr y) = true := by simp [hv]
    have HV := Aside0.mk hv
    clear hv
    go_enter Try.func83, Try.ntmps83
    go_wp2_with (first | (go_at_call_of 90 x; refine (variable_calls x _ HX.out).mono ?_; rintro e w' ⟨rfl, rfl⟩) | (go_at_call_of 90 y; refine (variable_calls y _ HY.out).mono ?_; rintro e w' ⟨rfl, rfl⟩))
    go_ret
    exact ⟨by unfold ordv; rw [if_neg HV.out]; rfl, rfl⟩


/-- The halving search, round by round. -/
def bsLoop (xs : List Int) (x : Int) : Nat → Nat → Nat → Nat
  | 0, i, _ => i
  | k + 1, i, j => if i < j then (if ordv (rd xs (((i + j) / 2 : Nat) : Int)) x < 0 then bsLoop xs x k ((i + j) / 2 + 1) j else bsLoop xs x k i ((i + j) / 2)) else i
def bsAt (xs : List Int) (x : Int) : Nat := bsLoop xs x (xs.length + 1) 0 xs.length
def bsHas (xs : List Int) (x : Int) : Bool := decide (bsAt xs x < xs.length) && decide (ordv (rd xs (bsAt xs x : Int)) x = 0)
theorem rd_sml {xs : List Int} (h : ∀ y ∈ xs, Sml y) (i : Int) : Sml (rd xs i) := by
  unfold rd
  rw [List.getD_eq_getElem?_getD]
  rcases hq : xs[i.toNat]? with _ | y
  · simp [Sml]
  · exact h y (List.mem_of_getElem? hq)

set_option maxHeartbeats 2000000 in
theorem bsearch_calls (A : Option Addr) (c : Nat) (xs : List Int) (x : Int) (w : World) (hr : Kd.C (Kd.int .i64) w A xs.length xs) (hs : ∀ y ∈ xs, Sml y) (hx : Sml x) (hmax : xs.length ≤ 1099511627776) :
    Calls Try.prog 82 #[.slice A xs.length c, .int .i64 x, .func (.func 83) #[] #[]] w fun e w' => e = .returned (.tuple #[.int .i64 (bsAt xs x), .bool (bsHas xs x)]) ∧ w = w' := by
  have HR := Aside0.mk hr
  have HS := Aside0.mk hs
  have HX := Aside0.mk hx
  obtain ⟨n, hn⟩ : ∃ n, n = xs.length := ⟨_, rfl⟩
  have HN := Aside0.mk hn
  have H0 := Aside0.mk (show bsLoop xs x (xs.length + 1) 0 xs.length = bsAt xs x from rfl)
  rw [← hn] at hmax H0 ⊢
  clear hr hs hx hn
  go_enter Try.func82, Try.ntmps82
  go_wp2
  go_loopg [9, 10, 11] (n + 1) (fun kq v9 v10 v11 w' => ∃ i j : Nat, v9 = .int .i64 (i : Int) ∧ v10 = .int .i64 (j : Int) ∧ Aside0 (bsLoop xs x kq i j = bsAt xs x) ∧ i ≤ j ∧ j ≤ n ∧ Aside0 (j < kq + i) ∧ w = w')
  case atStart => exact ⟨0, n, rfl, rfl, H0, Nat.zero_le _, Nat.le_refl _, ⟨by omega⟩, rfl⟩
  case round =>
    clear H0
    obtain ⟨i, j, rfl, rfl, HF, hij, hjn, HK, rfl⟩ := hrel
    cases gk with
    | zero => exact absurd HK.out (by omega)
    | succ k =>
      have hf := HF.out
      clear HF
      simp only [bsLoop] at hf
      by_cases hlt : i < j
      · rw [if_pos hlt] at hf
        have HF := Aside0.mk hf
        clear hf
        obtain ⟨ad, e, hc⟩ := Kd.at_int HR.out (((i + j) / 2 : Nat) : Int) (by omega) (by have := HN.out; omega)
        rw [Int.toNat_natCast] at hc
        cases e
        have hsy := rd_sml HS.out (((i + j) / 2 : Nat) : Int)
        obtain ⟨y, hy⟩ : ∃ y, y = rd xs (((i + j) / 2 : Nat) : Int) := ⟨_, rfl⟩
        rw [← hy] at hc hsy HF
        have HY := Aside0.mk hsy
        clear hy hsy
        by_cases ho : ordv y x < 0
        · have hf := HF.out
          rw [if_pos ho] at hf
          have HF := Aside0.mk hf
          clear hf
          go_wp2_with (go_at_call 83; refine (order_calls y x _ HY.out HX.out).mono ?_; rintro e w' ⟨rfl, rfl⟩)
          go_roundg k
          case measure => omega
          case rel => exact ⟨(i + j) / 2 + 1, j, by go_num, rfl, HF, by omega, hjn, ⟨by have := HK.out; omega⟩, rfl⟩
        · have hf := HF.out
          rw [if_neg ho] at hf
          have HF := Aside0.mk hf
          clear hf
          go_wp2_with (go_at_call 83; refine (order_calls y x _ HY.out HX.out).mono ?_; rintro e w' ⟨rfl, rfl⟩)
          go_roundg k
          case measure => omega
          case rel => exact ⟨i, (i + j) / 2, rfl, by go_num, HF, by omega, by omega, ⟨by have := HK.out; omega⟩, rfl⟩
      · rw [if_neg hlt] at hf
        have HI := Aside0.mk (show i = bsAt xs x from hf)
        clear hf HK
        by_cases hin : i < n
        · obtain ⟨ad, e, hc⟩ := Kd.at_int HR.out (i : Int) (by omega) (by have := HN.out; omega)
          rw [Int.toNat_natCast] at hc
          cases e
          have hsy := rd_sml HS.out (i : Int)
          have HQ := Aside0.mk (show bsHas xs x = decide (ordv (rd xs (i : Int)) x = 0) by unfold bsHas; rw [← HI.out, decide_eq_true (by have := HN.out; omega), Bool.true_and])
          obtain ⟨y, hy⟩ : ∃ y, y = rd xs (i : Int) := ⟨_, rfl⟩
          rw [← hy] at hc hsy HQ
          have HY := Aside0.mk hsy
          clear hy hsy
          by_cases ho : ordv y x = 0
          · have hb : (ordv y x == 0) = true := by simpa using ho
            have HQ2 := Aside0.mk (HQ.out.trans (decide_eq_true ho))
            clear HQ ho
            go_wp2_with (go_at_call 83; refine (order_calls y x _ HY.out HX.out).mono ?_; rintro e w' ⟨rfl, rfl⟩)
            go_ret2
            exact ⟨by rw [HQ2.out, ← HI.out]; rfl, rfl⟩
          · have hb : (ordv y x == 0) = false := by simpa using ho
            have HQ2 := Aside0.mk (HQ.out.trans (decide_eq_false ho))
            clear HQ ho
            go_wp2_with (go_at_call 83; refine (order_calls y x _ HY.out HX.out).mono ?_; rintro e w' ⟨rfl, rfl⟩)
            go_ret2
            exact ⟨by rw [HQ2.out, ← HI.out]; rfl, rfl⟩
        · have HQ2 := Aside0.mk (show bsHas xs x = false by unfold bsHas; rw [← HI.out, decide_eq_false (by have := HN.out; omega), Bool.false_and])
          have hd : decide ((i : Int) < (n : Int)) = false := decide_eq_false (by omega)
          go_wp2
          go_ret2
          exact ⟨by rw [HQ2.out, ← HI.out]; rfl, rfl⟩

theorem find_calls (A : Option Addr) (c : Nat) (xs : List Int) (x : Int) (w : World) (hr : Kd.C (Kd.int .i64) w A xs.length xs) (hs : ∀ y ∈ xs, Sml y) (hx : Sml x) (hmax : xs.length ≤ 1099511627776) :
    Calls Try.prog 67 #[.slice A xs.length c, .int .i64 x] w fun e w' => e = .returned (.tuple #[.int .i64 (bsAt xs x), .bool (bsHas xs x)]) ∧ w = w' := by
  have HR := Aside0.mk hr
  have HS := Aside0.mk hs
  have HX := Aside0.mk hx
  clear hr hs hx
  go_enter Try.func67, Try.ntmps67
  go_wp2_with (go_at_call 82; refine (bsearch_calls A c xs x _ HR.out HS.out HX.out hmax).mono ?_; rintro e w' ⟨rfl, rfl⟩)
  go_ret2
  exact ⟨rfl, rfl⟩

end Go.Proofs.Ythhmjfjkbmmcaaa
/- slices.SortFunc over the order of literals. -/
namespace Go.Proofs.Ythhmjfjkbmmcaaa
open Go.RowKit Go.Proofs.YthhmjfjkbmmcaaaW.PrintWords Go.Proofs.YthhmjfjkbmmcaaaW.PrintLast Go.Proofs.YthhmjfjkbmmcaaaW.PrintMore
open Go.Shelf Go.Sort
set_option linter.unusedVariables false
set_option linter.unusedSimpArgs false

/-- Literals that are small. -/
abbrev SInt : Type := { x : Int // Sml x }
instance instSInt : Inhabited SInt := ⟨⟨0, by unfold Sml; omega⟩⟩
def encS (x : SInt) : Value := .int .i64 x.1
def cfS (x y : SInt) : Int := ordv x.1 y.1
def ltB (x y : Int) : Bool := decide (ordv x y < 0)
def srt (xs : List Int) : List Int := xs.mergeSort fun x y => !ltB y x

theorem ordv_neg (x y : Int) : ordv x y < 0 ↔ vr x < vr y ∨ (vr x = vr y ∧ x < y) := by
  unfold ordv
  split <;> omega
theorem vr_or (x : Int) : (0 ≤ x ∧ vr x = x) ∨ (x < 0 ∧ vr x = -x) := by
  unfold vr
  split <;> omega
theorem swoS : SWO (ltOf cfS) where
  irrefl x := by
    unfold ltOf cfS
    rw [decide_eq_false_iff_not, ordv_neg]
    omega
  trans x y z h1 h2 := by
    unfold ltOf cfS at *
    rw [decide_eq_true_eq, ordv_neg] at *
    omega
  ntrans x y z h1 h2 := by
    unfold ltOf cfS at *
    rw [decide_eq_false_iff_not, ordv_neg] at *
    have := vr_or x.1; have := vr_or y.1; have := vr_or z.1
    omega
theorem totS (x y : SInt) (h1 : ltOf cfS x y = false) (h2 : ltOf cfS y x = false) : x = y := by
  unfold ltOf cfS at *
  rw [decide_eq_false_iff_not, ordv_neg] at *
  apply Subtype.ext
  have := vr_or x.1; have := vr_or y.1
  omega

set_option maxHeartbeats 1000000 in
theorem sort_calls (g cap n base : Nat) (xs : List Int) (hs : ∀ x ∈ xs, Sml x) (w : World) (ho : w.ownsRow base 3 1 (.slice (some ⟨g, 0, none⟩) n cap) n (nums .i64 xs)) (hn : n ≤ 1099511627776) :
    Calls Try.prog 84 #[.slice (some ⟨g, 0, none⟩) n cap, .func (.func 83) #[] #[]] w fun e w' =>
      e = .returned (.tuple #[]) ∧ w'.ownsRow base 3 1 (.slice (some ⟨g, 0, none⟩) n cap) n (nums .i64 (srt xs)) ∧ w.grownBy w' (some g) := by
  obtain ⟨zs, hz⟩ : ∃ zs : List SInt, zs.map (fun z => z.1) = xs := ⟨xs.attach.map (fun x => ⟨x.1, hs x.1 x.2⟩), by rw [List.map_map]; exact List.attach_map_subtype_val xs⟩
  have he : nums .i64 xs = zs.map encS := by rw [← hz]; simp [nums, encS]
  rw [he] at ho
  have hl : zs.length = n := by simpa using ho.1
  obtain ⟨g', cap', hv, hbg, hlt, hnc, hcm, _, hH⟩ := Lib.holds_of_ownsRow ho (by simp)
  injection hv with hv1 _ hv3
  injection hv1 with hv1
  injection hv1 with hv1
  subst hv1; subst hv3
  have eg : ∀ args w, (callFunc 83 args).run Try.prog w = .ok (.enter 83 args) w := enters_of Try.func83 (by kernel_rfl) rfl
  have hcmp : CmpLays1 Try.prog 83 #[] encS cfS g 0 zs.toArray.size w := fun m os dk hk x y => (order_calls x.1 y.1 _ x.2 y.2).mono fun e w' ⟨h1, h2⟩ => ⟨h1, 0, #[], by rw [Sort.grow_empty]; exact h2.symm⟩
  have hO1 : OneCell encS := fun _ => rfl
  have hsz : zs.toArray.size = n := by simpa using hl
  have hlim : Lib.bitLen n < 4611686018427387904 := Nat.lt_of_le_of_lt (Lib.bitLen_le n 62 (by omega) (by omega)) (by omega)
  have hp := Try.pdqsortCmpFunc_all encS cfS 83 #[] swoS g 0 cap zs.toArray w eg hcmp ⟨hO1, hH, hlt⟩ (n + 1) 0 n (Lib.bitLen n) zs.toArray w (by omega) rfl (SW.start hH) (Nat.zero_le _) (by omega) (by omega) hlim (Or.inl rfl)
  rw [hsz] at hp
  have hb := Try.bits_Len (n : Int) w (by omega) (by omega)
  rw [Int.toNat_natCast] at hb
  have HP := Aside0.mk hp
  have HB := Aside0.mk hb
  have HSORT := Aside0.mk (pdq_sorts (ltOf cfS) swoS zs.toArray 0 n (Lib.bitLen n) true true (Nat.zero_le _) (by omega) (Or.inl rfl))
  have HO := Aside0.mk ho
  have HLT := Aside0.mk hlt
  have HZ := Aside0.mk hz
  have HL := Aside0.mk hl
  clear hp hb ho hlt hz hl hcmp eg hH hsz he hs
  go_enter Try.func84, Try.ntmps84
  go_wp2_with (first | (go_at_call 92; refine HB.out.mono ?_; rintro e w' ⟨rfl, rfl⟩) | (go_at_call 91; refine HP.out.mono ?_; rintro e w' ⟨rfl, n, os, rfl⟩))
  go_end0
  obtain rfl := HL.out
  have hd := sorted_unique_holds (lt := ltOf cfS) swoS totS zs.toArray _ HSORT.out.1 HSORT.out.2
  obtain ⟨ys, hys⟩ : ∃ ys, ys = zs.mergeSort fun x y => !(ltOf cfS) y x := ⟨_, rfl⟩
  have hyl : ys.length = zs.length := by rw [hys]; exact List.length_mergeSort _
  have hd' : pdq (ltOf cfS) zs.toArray 0 zs.length (Lib.bitLen zs.length) true true = ys.toArray := by rw [hys]; exact Array.toList_inj.1 (by rw [hd])
  have hval : nums .i64 (srt xs) = (ys.take zs.length).map encS := by
    rw [List.take_of_length_le (by omega), hys, ← HZ.out]
    unfold srt
    rw [← List.map_mergeSort (f := fun z : SInt => z.1) (r := fun x y : SInt => !(ltOf cfS) y x) (s := fun x y : Int => !ltB y x) (by intro a _ b _; rfl)]
    simp [nums, encS]
  rw [hd', hval]
  have hrow := Lib.ownsRow_putRow (q := n) HO.out hyl (Nat.le_refl _)
  have hg1 : w'.grownBy (putRow encS (Sort.ahead w' n) g 0 ys.toArray) (some g) := ⟨rfl, rfl, rfl, by simp [putRow, mapBlock, Sort.ahead], fun k hk hne => by
    have : g ≠ k := fun e => hne (by rw [e])
    simp [putRow, mapBlock, Sort.ahead, Array.getElem?_modify, this]⟩
  have hg2 : (putRow encS (Sort.ahead w' n) g 0 ys.toArray).grownBy (sortWorld encS w' g 0 n ys.toArray os) none := ⟨rfl, rfl, rfl, by unfold sortWorld; rw [size_grow]; omega, fun k hk _ => heap_grow_old _ _ hk⟩
  exact ⟨rfl, hrow.kept hg2 (by right; simp [Value.ownBlock]), ⟨rfl, rfl, rfl, Nat.le_trans hg1.size hg2.size, fun k hk hne => (hg2.block k (Nat.lt_of_lt_of_le hk hg1.size) (by simp)).trans (hg1.block k hk hne)⟩⟩

end Go.Proofs.Ythhmjfjkbmmcaaa
/- slices.Grow of nil, slices.Concat. -/
namespace Go.Proofs.Ythhmjfjkbmmcaaa
open Go.RowKit Go.Proofs.YthhmjfjkbmmcaaaW.PrintWords Go.Proofs.YthhmjfjkbmmcaaaW.PrintLast Go.Proofs.YthhmjfjkbmmcaaaW.PrintMore
set_option linter.unusedVariables false
set_option linter.unusedSimpArgs false

set_option maxHeartbeats 1000000 in
theorem grow_nil (n : Nat) (w : World) (hn : n * 8 ≤ 140737488355328) :
    Calls Try.prog 87 #[.slice none 0 0, .int .i64 (n : Int)] w fun e w' => ∃ v, e = .returned v ∧ w'.ownsRow w.heap.size 3 1 v 0 [] ∧ Below w.heap.size w w' := by
  have h0 : (0 : Int) ≤ (n : Int) := by omega
  by_cases hp : 0 < n
  · have hrun : ∀ W : World, ∃ cap, n ≤ cap ∧ cap ≤ maxLen ∧ ∃ cs : Array Value, cs.size = cap ∧ (Builtin.append_ #[43, 3] 43 #[.slice none 0 0, .int .i64 (n : Int)]).run Try.prog W = .ok (.slice (some ⟨W.heap.size, 0, none⟩) n cap) (W.drew.alloc (.cells cs 3)) := by
      intro W
      obtain ⟨i0, hi, hz0, hz1, hz2⟩ := info_parts infoInt
      refine ⟨_, grownCap_ge W n 0 3, grownCap_le_maxLen W n 0 3 (by unfold maxLen; omega), _, ?_, Lib.run_append_nil_zeros (P := Try.prog) W 43 3 43 3 i0 (.int .i64 0) .i64 .i64 Try.underlying43 Try.underlying3 hi hz0 n hp (by omega) (by omega) (by rw [hz2]; omega)⟩
      simp [Builtin.zeroCells, Value.cells]
      have := grownCap_ge W n 0 3
      omega
    have HR := Aside0.mk hrun
    clear hrun
    obtain ⟨cap, hc1, hc2, cs, hcs, he⟩ := HR.out w
    have HE := Aside0.mk he
    have HC := Aside0.mk hcs
    clear he hcs HR
    unfold maxLen at hc2
    go_enter Try.func87, Try.ntmps87
    go_wp2_with (at_builtin; refine Lib.wpList_append_run _ rfl (.tmp 20) (.tmp 21) 43 3 rfl _ _ rfl rfl _ _ HE.out ?_)
    go_ret
    exact ⟨_, rfl, World.ownsRow_made w cs cap (Nat.le_refl _) (by unfold maxLen; omega) (by rw [HC.out]; simp), below_drew (below_alloc (Below.refl _ _) _)⟩
  · obtain rfl : n = 0 := by omega
    go_enter Try.func87, Try.ntmps87
    go_wp2
    go_ret
    exact ⟨_, rfl, World.ownsRow_nil _ _ _ _, Below.refl _ _⟩

/-- An element of a row of rows of whole numbers. -/
theorem at_rows {w : World} {A : Option Addr} {n : Nat} {ls : List (List Int)} (h : Kd.C (Kd.slice 3 (Kd.int .i64)) w A n ls) (i : Nat) (hi : i < n) :
    ∃ ad A0 c0 l, A = some ad ∧ ls[i]? = some l ∧ w.cell? (ad.add i) = some (.slice A0 l.length c0) ∧ l.length ≤ c0 ∧ (Kd.int .i64).C w A0 l.length l := by
  obtain ⟨ad, c, e, _, hK, hc0⟩ := Kd.C_get h ([] : List Int) (i : Int) (by omega) (by omega)
  rw [Int.toNat_natCast] at hK hc0
  have hl : ls.length = n := h.1
  have hg : ls[i]? = some (ls.getD i []) := by rw [List.getD_eq_getElem?_getD, List.getElem?_eq_getElem (by omega)]; rfl
  obtain ⟨A0, c0, rfl, l0, g0⟩ := hK
  have hc : ∀ j u, [Value.slice A0 (ls.getD i []).length c0][j]? = some u → w.cell? (ad.add (i * 1 + j)) = some u := hc0
  exact ⟨ad, A0, c0, _, e, hg, by have hq := hc 0 _ rfl; rwa [Nat.mul_one, Nat.add_zero] at hq, l0, g0⟩
theorem rowN_ints {w : World} {A : Option Addr} {n : Nat} {xs : List Int} (h : (Kd.int .i64).C w A n xs) : RowN w 1 A n (nums .i64 xs) := by
  have hl : xs.length = n := h.1
  refine ⟨by rw [nums_length]; omega, h.2.1, fun hn => ?_, fun u hu => by simp only [nums, List.mem_map] at hu; obtain ⟨q, _, rfl⟩ := hu; rfl⟩
  obtain ⟨ad, e, _⟩ := Kd.at_int h 0 (by omega) (by omega)
  refine ⟨ad, e, fun j u hu => ?_⟩
  have hj : j < xs.length := by
    have := (List.getElem?_eq_some_iff.1 hu).1
    rwa [nums_length] at this
  obtain ⟨ad', e', hc⟩ := Kd.at_int h (j : Int) (by omega) (by omega)
  rw [e] at e'
  injection e' with e'
  subst e'
  rw [Int.toNat_natCast] at hc
  rw [hc]
  simp [nums, List.getElem?_eq_getElem hj] at hu
  subst hu
  simp [rd, List.getD_eq_getElem?_getD, List.getElem?_eq_getElem hj]

theorem flat_take {ls : List (List Int)} {i : Nat} {l : List Int} (h : ls[i]? = some l) : (ls.take (i + 1)).flatten = (ls.take i).flatten ++ l := by
  rw [List.take_add_one, h]
  simp
theorem flat_le (ls : List (List Int)) (i : Nat) : (ls.take i).flatten.length ≤ ls.flatten.length := by
  have h : ls.flatten = (ls.take i).flatten ++ (ls.drop i).flatten := by rw [← List.flatten_append, List.take_append_drop]
  rw [h, List.length_append]
  omega

set_option maxHeartbeats 2000000 in
theorem concat_calls (A : Option Addr) (c : Nat) (ls : List (List Int)) (w : World) (hr : Kd.C (Kd.slice 3 (Kd.int .i64)) w A ls.length ls) (hb : ls.flatten.length * 8 ≤ 140737488355328) :
    Calls Try.prog 69 #[.slice A ls.length c] w fun e w' => ∃ v, e = .returned v ∧ w'.ownsRow w.heap.size 3 1 v ls.flatten.length (nums .i64 ls.flatten) ∧ Below w.heap.size w w' := by
  have hmax : ls.length ≤ 9223372036854775807 := hr.2.1
  have HR := Aside0.mk hr
  obtain ⟨n, hn⟩ : ∃ n, n = ls.length := ⟨_, rfl⟩
  obtain ⟨m, hm⟩ : ∃ m, m = ls.flatten.length := ⟨_, rfl⟩
  rw [← hm] at hb
  have HN := Aside0.mk hn
  have HM := Aside0.mk hm
  rw [← hn] at hmax ⊢
  clear hr hn hm
  go_enter Try.func69, Try.ntmps69
  go_wp2
  go_loopg [3, 5, 11] (n + 1) (fun kq v3 v5 v11 w' => ∃ i : Nat, v3 = .int .i64 (((ls.take i).flatten.length : Nat) : Int) ∧ v11 = .int .i64 (i : Int) ∧ i ≤ n ∧ Aside0 (n < kq + i) ∧ w = w')
  case atStart => exact ⟨0, by simp, rfl, Nat.zero_le _, ⟨by omega⟩, rfl⟩
  case round =>
    obtain ⟨i, rfl, rfl, hi, HK, rfl⟩ := hrel
    have hle := flat_le ls i
    rw [← HM.out] at hle
    obtain ⟨t, ht⟩ : ∃ t, t = (ls.take i).flatten.length := ⟨_, rfl⟩
    rw [← ht] at hle ⊢
    have HT := Aside0.mk ht
    clear ht
    cases gk with
    | zero => exact absurd HK.out (by omega)
    | succ k =>
      by_cases hlt : i < n
      · obtain ⟨ad, A0, c0, l, e, hl, hc, _, _⟩ := at_rows HR.out i (by have := HN.out; omega)
        cases e
        have hle2 := flat_le ls (i + 1)
        rw [flat_take hl, List.length_append, ← HM.out, ← HT.out] at hle2
        have HL := Aside0.mk hl
        clear hl
        go_wp2
        go_roundg k
        case measure => omega
        case rel => exact ⟨i + 1, by rw [flat_take HL.out, List.length_append, ← HT.out]; go_num, by go_num, by omega, ⟨by have := HK.out; omega⟩, rfl⟩
      · obtain rfl : i = n := by omega
        have HT2 := Aside0.mk (show t = m by rw [HT.out, HM.out, HN.out, List.take_length])
        clear hle HT HK
        go_wp2_with (go_at_call 87; refine (grow_nil t _ (by have := HT2.out; omega)).mono ?_; rintro e w1 ⟨v, rfl, ho, hb1⟩; have HO := Aside0.mk ho; have HB := Aside0.mk hb1; clear ho hb1)
        go_loopg [6, 8, 27] (i + 1) (fun kq v6 v8 v27 w' => ∃ j : Nat, v27 = .int .i64 (j : Int) ∧ Aside0 (w'.ownsRow w.heap.size 3 1 v6 (ls.take j).flatten.length (nums .i64 (ls.take j).flatten)) ∧ j ≤ i ∧ Aside0 (i < kq + j) ∧ Aside0 (Below w.heap.size w w'))
        case atStart => exact ⟨0, rfl, ⟨by simpa [nums] using HO.out⟩, Nat.zero_le _, ⟨by omega⟩, HB⟩
        case round =>
          clear HO HB
          obtain ⟨j, rfl, HO, hj, HK, HB⟩ := hrel
          cases gk with
          | zero => exact absurd HK.out (by omega)
          | succ k1 =>
            by_cases hlt : j < i
            · obtain ⟨ad, A0, c0, l, e, hl, hc0, _, hrl⟩ := at_rows HR.out j (by have := HN.out; omega)
              cases e
              have hc := pw_cell_below HB.out hc0
              have hle2 := flat_le ls (j + 1)
              rw [flat_take hl, List.length_append, ← HM.out] at hle2
              have HL := Aside0.mk hl
              have HLR := Aside0.mk (rowN_ints (Kd.C_below hrl HB.out))
              have HLE := Aside0.mk hle2
              clear hl hc0 hrl hle2
              go_wp2_with (at_builtin; refine law_appends rfl (.tmp 31) (.tmp 32) 43 3 (.int .i64 0) 1 8 rfl Try.underlying43 infoInt rfl (by omega) (by omega) w.heap.size _ _ _ rfl HO.out A0 l.length c0 _ rfl HLR.out (by have := HLE.out; omega) HB.out.size ?_; intro v1 w1 hown hg hat)
              have HO1 := Aside0.mk hown
              have HB1 := Aside0.mk (HB.out.grown hg HB.out.size (own_base HO.out))
              clear hown hg hat HO HB HLR hc
              go_wp2
              go_roundg k1
              case measure => omega
              case rel => exact ⟨j + 1, by go_num, ⟨by rw [flat_take HL.out, List.length_append, nums_append]; exact HO1.out⟩, by omega, ⟨by have := HK.out; omega⟩, HB1⟩
            · obtain rfl : j = i := by omega
              go_wp2
              go_ret
              exact ⟨_, rfl, by have := HO.out; rw [HN.out, List.take_length] at this; exact this, HB.out⟩

end Go.Proofs.Ythhmjfjkbmmcaaa
/- slices.Compact (the shelf's proof, laid by hand), slices.Clip, the normal form of a clause. -/
namespace Go.Proofs.Ythhmjfjkbmmcaaa
open Go.RowKit Go.Proofs.YthhmjfjkbmmcaaaW.PrintWords Go.Proofs.YthhmjfjkbmmcaaaW.PrintLast Go.Proofs.YthhmjfjkbmmcaaaW.PrintMore
open Go.Shelf Go.Sort
set_option linter.unusedVariables false
set_option linter.unusedSimpArgs false

def compRen : Go.Shelf.Ren := ⟨fun | 43 => 85 | n => n, fun | 22 => 43 | 23 => 3 | n => n, fun | n => n⟩
theorem compLays : Go.Proofs.SlLaysE.n43 Try.prog compRen := {
  mixed := by kernel_rfl
  f43 := ⟨Try.f85.name, by decide, Try.func85.trans (congrArg some (by kernel_rfl))⟩
  t0 := Try.underlying0
  a0 := Try.isAgg0
  z0 := Try.sizeOf0
  v0 := Try.zeroValue0
  t3 := Try.underlying3
  a3 := Try.isAgg3
  z3 := Try.sizeOf3
  v3 := Try.zeroValue3
  t4 := Try.underlying4
  a4 := Try.isAgg4
  z4 := Try.sizeOf4
  v4 := Try.zeroValue4
  t22 := Try.underlying43
  a22 := Try.isAgg43
  z22 := Try.sizeOf43
  v22 := Try.zeroValue43
  a23 := Try.isAgg3
  z23 := Try.sizeOf3 }

/-- One of each run of equal numbers. -/
def cmpct (xs : List Int) : List Int := Lib.compactUpTo xs.toArray xs.toArray.size
theorem cmpct_le (xs : List Int) : (cmpct xs).length ≤ xs.length := by
  unfold cmpct Lib.compactUpTo
  rw [List.length_map]
  refine Nat.le_trans (List.length_filter_le _ _) ?_
  simp

theorem compact_calls (g cap n base : Nat) (xs : List Int) (w : World) (ho : w.ownsRow base 3 1 (.slice (some ⟨g, 0, none⟩) n cap) n (nums .i64 xs)) (hn : n ≤ 1099511627776) :
    Calls Try.prog 85 #[.slice (some ⟨g, 0, none⟩) n cap] w fun e w' =>
      e = .returned (.slice (some ⟨g, 0, none⟩) (cmpct xs).length cap) ∧ w'.ownsRow base 3 1 (.slice (some ⟨g, 0, none⟩) (cmpct xs).length cap) (cmpct xs).length (nums .i64 (cmpct xs)) ∧ w.grownBy w' (some g) := by
  have hl : xs.length = n := by have := ho.1; rw [nums_length] at this; omega
  obtain ⟨g', cap', hv, hbg, hlt, hnc, hcm, _, hH⟩ := Lib.holds_of_ownsRow ho (by simp)
  injection hv with hv1 _ hv3
  injection hv1 with hv1
  injection hv1 with hv1
  subst hv1; subst hv3
  have hsz : xs.toArray.size = n := by simpa using hl
  have := AnyE.slices_Compact compLays (Value.int .i64) (fun _ => rfl) (EqlAt.intD _ _ _) (NeqAt.intD _ _ _) 0 Try.zeroValue3 g 0 cap xs.toArray w hH (by omega) (by omega)
  rw [hsz] at this
  refine this.mono ?_
  rintro e w' ⟨rfl, q, rfl⟩
  have hc : Lib.compactUpTo xs.toArray n = cmpct xs := by unfold cmpct; rw [hsz]
  rw [hc]
  have hle := cmpct_le xs
  have hrow := Lib.ownsRow_putRow (q := q) (k := (cmpct xs).length) (ys := cmpct xs ++ List.replicate (n - (cmpct xs).length) 0) ho (by simp; omega) (by omega)
  rw [List.take_append_of_le_length (Nat.le_refl _), List.take_length] at hrow
  refine ⟨rfl, hrow, ⟨rfl, rfl, rfl, by simp [putRow, mapBlock, Sort.ahead], fun k hk hne => ?_⟩⟩
  have : g ≠ k := fun e => hne (by rw [e])
  simp [putRow, mapBlock, Sort.ahead, Array.getElem?_modify, this]

theorem clip_calls (A : Option Addr) (n c : Nat) (w : World) (hn : n ≤ c) (hmax : c ≤ 9223372036854775807) :
    Calls Try.prog 86 #[.slice A n c] w fun e w' => e = .returned (.slice A n n) ∧ w = w' := by
  go_enter Try.func86, Try.ntmps86
  go_wp2
  go_ret
  exact ⟨rfl, rfl⟩

end Go.Proofs.Ythhmjfjkbmmcaaa
/- The normal form of a clause. -/
namespace Go.Proofs.Ythhmjfjkbmmcaaa
open Go.RowKit Go.Proofs.YthhmjfjkbmmcaaaW.PrintWords Go.Proofs.YthhmjfjkbmmcaaaW.PrintLast Go.Proofs.YthhmjfjkbmmcaaaW.PrintMore
set_option linter.unusedVariables false
set_option linter.unusedSimpArgs false

section laws
variable {P : Program} {ops : Array Oper} {rest : List Oper} {o : Oper} {a : Act} {Q : Exit → Act → World → Prop}
/-- copy of as many cells as an owned row has. -/
theorem law_copyn {W : World} (hgd : o.guard = none) (d s : Operand) (dT sT : TypeId)
    (ho : o.op = .call { callee := .builtin .copy, args := #[d, s], argTypes := #[dT, sT] }) (e : TypeId) (hu : P.underlying dT = some (.slice e)) (hsz : (P.info? e).map (·.size) = some 1)
    (base g n cap : Nat) (xs : List Value) (hd : a.eval d = .slice (some ⟨g, 0, none⟩) n cap) (hown : W.ownsRow base e 1 (.slice (some ⟨g, 0, none⟩) n cap) n xs)
    (A : Option Addr) (c : Nat) (news : List Value) (hs : a.eval s = .slice A n c) (hsrc : RowN W 1 A n news)
    (h : ∀ w1, w1.ownsRow base e 1 (.slice (some ⟨g, 0, none⟩) n cap) n news → W.grownBy w1 (some g) → wpList P ops Q rest (a.put o.dst (goInt n)) w1) :
    wpList P ops Q (o :: rest) a W := by
  obtain ⟨hl, _, hcl, h1⟩ := hsrc
  rw [Nat.mul_one] at hl
  rcases Nat.eq_zero_or_pos n with h0 | h0
  · subst h0
    obtain rfl : news = [] := List.eq_nil_of_length_eq_zero hl
    obtain rfl : xs = [] := List.eq_nil_of_length_eq_zero (by have := hown.1; omega)
    exact wpList_copy_nothing hgd d s dT sT ho e hu hsz _ A 0 cap 0 c hd hs rfl (h W hown (World.grownBy.refl W _))
  · obtain ⟨ad, rfl, hc⟩ := hcl h0
    rcases hown.2 with ⟨he, _⟩ | ⟨g', cap', cur, he, hb, hg, hnc, hcm, hsz', ht⟩
    · cases he
    · injection he with he1 _ he3
      injection he1 with he1
      injection he1 with he1
      subst he1; subst he3
      refine wpList_copy_own hgd d s dT sT ho e hu hsz g 0 n cap ad n c hd hs cur e hg news (by simpa using hl) hc (by omega) h1 ?_
      rw [hl]
      refine h _ ⟨by omega, .inr ⟨g, cap, _, rfl, hb, setRow_heap W g _ _ e _ hg, hnc, hcm, by simp; omega, ?_⟩⟩ ⟨rfl, rfl, rfl, by simp [World.setRow], fun k hk hne => ?_⟩
      · simp [hl, List.take_append_of_le_length]
      · exact setRow_other W g k _ (fun e => hne (by rw [e]))
end laws

theorem infoSz : (Try.prog.info? 3).map (·.size) = some 1 := by kernel_rfl
def clashFrom (ys : List Int) : Nat → Nat → Bool
  | 0, _ => false
  | k + 1, i => if i + 1 < ys.length then (if rd ys (i : Int) = -(rd ys ((i + 1 : Nat) : Int)) then true else clashFrom ys k (i + 1)) else false
/-- A clause's normal form: literals in order, each once; none where one stands beside its negation. -/
def nrm (xs : List Int) : List Int × Bool := if clashFrom (cmpct (srt xs)) ((cmpct (srt xs)).length + 1) 0 then ([], false) else (cmpct (srt xs), true)
theorem srt_mem {xs : List Int} {x : Int} : x ∈ srt xs ↔ x ∈ xs := List.mem_mergeSort
theorem srt_length (xs : List Int) : (srt xs).length = xs.length := List.length_mergeSort _
theorem cmpct_mem {xs : List Int} {x : Int} (h : x ∈ cmpct xs) : x ∈ xs := by
  unfold cmpct Lib.compactUpTo at h
  rw [List.mem_map] at h
  obtain ⟨j, hj, rfl⟩ := h
  rw [List.mem_filter, List.mem_range] at hj
  have hlt : j < xs.length := by simpa using hj.1
  simp [getElem!_pos, hlt]
theorem nrm_length (xs : List Int) : (nrm xs).1.length ≤ xs.length := by
  unfold nrm
  split
  · simp
  · refine Nat.le_trans (cmpct_le _) ?_
    rw [srt_length]; exact Nat.le_refl _
theorem nrm_mem {xs : List Int} {x : Int} (h : x ∈ (nrm xs).1) : x ∈ xs := by
  unfold nrm at h
  split at h
  · simp at h
  · exact srt_mem.1 (cmpct_mem h)
theorem C_of_own {w : World} {base n : Nat} {e : TypeId} {A : Option Addr} {c : Nat} {xs : List Int} (h : w.ownsRow base e 1 (.slice A n c) n (nums .i64 xs)) : (Kd.int .i64).C w A n xs := by
  have hl : xs.length = n := by have := h.1; rw [nums_length] at this; omega
  subst hl
  exact (Kd.R_reads' (Kd.R_of_own (h1 := fun _ => rfl) (ok := fun _ => True) h (fun _ _ => trivial))).2.2

set_option maxHeartbeats 2000000 in
theorem normal_calls (A : Option Addr) (c : Nat) (xs : List Int) (w : World) (hr : Kd.C (Kd.int .i64) w A xs.length xs) (hs : ∀ y ∈ xs, Sml y) (hmax : xs.length ≤ 1099511627776) :
    Calls Try.prog 68 #[.slice A xs.length c] w fun e w' => ∃ B d, e = .returned (.tuple #[.slice B (nrm xs).1.length d, .bool (nrm xs).2]) ∧ d = (nrm xs).1.length ∧ Kd.C (Kd.int .i64) w' B (nrm xs).1.length (nrm xs).1 ∧ (∀ ad, B = some ad → w.heap.size ≤ ad.block) ∧ Below w.heap.size w w' := by
  have HR := Aside0.mk (rowN_ints hr)
  have HS := Aside0.mk hs
  obtain ⟨n, hn⟩ : ∃ n, n = xs.length := ⟨_, rfl⟩
  have HN := Aside0.mk hn
  rw [← hn] at hmax HR ⊢
  obtain ⟨i0, hi, hz0, hz1, hz2⟩ := info_parts infoInt
  clear hr hs hn
  go_enter Try.func68, Try.ntmps68
  go_wp2_with (first | (at_make; refine wpList_make_full _ rfl _ _ 43 rfl w.heap.size 3 i0 _ 1 Try.underlying43 hi hz0 hz1 .i64 .i64 _ _ n rfl rfl rfl rfl (by rw [hz2]; omega) (by unfold maxLen; omega) (Nat.le_refl _) ?_; intro w1 hown hg; have HO := Aside0.mk hown; have HB := Aside0.mk ((Below.refl w.heap.size w).grown hg (Nat.le_refl _) (by simp)); clear hown hg) | (refine law_copyn rfl (.tmp 9) (.tmp 10) 43 43 rfl 3 Try.underlying43 infoSz w.heap.size _ n _ _ rfl HO.out A c _ rfl (HR.out.below HB.out) ?_; intro w2 hown2 hg2; have HO2 := Aside0.mk hown2; have HB2 := Aside0.mk (HB.out.grown hg2 HB.out.size (own_base HO.out)); clear hown2 hg2 HO HB) | (go_at_call 84; refine (sort_calls _ _ n _ xs HS.out _ HO2.out (by omega)).mono ?_; rintro e w3 ⟨rfl, hown3, hg3⟩; have HO3 := Aside0.mk hown3; have HB3 := Aside0.mk (HB2.out.grown hg3 HB2.out.size (own_base HO2.out)); clear hown3 hg3 HO2 HB2) | (go_at_call 85; refine (compact_calls _ _ n _ (srt xs) _ HO3.out (by omega)).mono ?_; rintro e w4 ⟨rfl, hown4, hg4⟩; have HO4 := Aside0.mk hown4; have HB4 := Aside0.mk (HB3.out.grown hg4 HB3.out.size (own_base HO3.out)); clear hown4 hg4 HO3 HB3))
  have hle := cmpct_le (srt xs)
  rw [srt_length, ← HN.out] at hle
  have HE := Aside0.mk (show nrm xs = if clashFrom (cmpct (srt xs)) ((cmpct (srt xs)).length + 1) 0 then ([], false) else (cmpct (srt xs), true) from rfl)
  have HSY := Aside0.mk (show ∀ y ∈ cmpct (srt xs), Sml y from fun y hy => HS.out y (srt_mem.1 (cmpct_mem hy)))
  obtain ⟨ys, hys⟩ : ∃ ys, ys = cmpct (srt xs) := ⟨_, rfl⟩
  rw [← hys] at hle HE HSY HO4 ⊢
  obtain ⟨m, hm⟩ : ∃ m, m = ys.length := ⟨_, rfl⟩
  rw [← hm] at hle HO4 HE ⊢
  have HM := Aside0.mk hm
  rw [show wrap64 ((m : Int) - 1) = (m : Int) - 1 from (by unfold wrap64; omega)]
  obtain ⟨cl, hcl⟩ : ∃ cl, cl = clashFrom ys (m + 1) 0 := ⟨_, rfl⟩
  rw [← hcl] at HE
  have H0 := Aside0.mk hcl.symm
  clear hcl hys hm HS HR hi hz0 hz1 hz2
  go_loopg [5, 19] (m + 1) (fun kq v5 v19 w' => ∃ i : Nat, v19 = .int .i64 (i : Int) ∧ Aside0 (clashFrom ys kq i = cl) ∧ i ≤ m ∧ Aside0 (m < kq + i) ∧ Aside0 (w'.ownsRow w.heap.size 3 1 (.slice (some { block := w.heap.size, off := 0 }) m n) m (nums .i64 ys)) ∧ Aside0 (Below w.heap.size w w'))
  case atStart => exact ⟨0, rfl, H0, Nat.zero_le _, ⟨by omega⟩, HO4, HB4⟩
  case round =>
    clear H0 HO4 HB4
    obtain ⟨i, rfl, HF, him, HK, HO, HB⟩ := hrel
    cases gk with
    | zero => exact absurd HK.out (by omega)
    | succ k =>
      have hf := HF.out
      clear HF
      simp only [clashFrom] at hf
      rw [← HM.out] at hf
      by_cases hlt : i + 1 < m
      · rw [if_pos hlt] at hf
        have hd : decide ((i : Int) < (m : Int) - 1) = true := decide_eq_true (by omega)
        obtain ⟨hc0, _⟩ := own_at HO.out (i : Int) (by omega) (by omega)
        obtain ⟨hc1, _⟩ := own_at HO.out ((i + 1 : Nat) : Int) (by omega) (by omega)
        rw [Int.toNat_natCast] at hc0 hc1
        have hs1 := rd_sml HSY.out ((i + 1 : Nat) : Int)
        generalize rd ys (i : Int) = x at hc0 hf
        generalize rd ys ((i + 1 : Nat) : Int) = y at hc1 hf hs1
        unfold Sml at hs1
        by_cases he : x = -y
        · rw [if_pos he] at hf
          have HF := Aside0.mk hf
          have hb : (x == -y) = true := by simpa using he
          clear hf
          subst he
          go_wp2_with fail
          go_quiet (fail)
          go_wp2
          go_ret2
          have hq := HE.out
          rw [← HF.out] at hq
          simp only [if_true] at hq
          rw [hq]
          exact ⟨none, 0, rfl, rfl, Kd.C_nil _ _, fun ad h => (by cases h), below_drewN HB.out _⟩
        · rw [if_neg he] at hf
          have HF := Aside0.mk hf
          have hb : (x == -y) = false := by simpa using he
          clear hf
          go_wp2_with fail
          go_quiet (fail)
          go_wp2
          go_roundg k
          case measure => omega
          case rel => exact ⟨i + 1, by go_num, HF, by omega, ⟨by have := HK.out; omega⟩, ⟨pw_own_below HO.out (pw_below_drewN (Below.refl _ _) _)⟩, ⟨below_drewN HB.out _⟩⟩
      · rw [if_neg hlt] at hf
        have hd : decide ((i : Int) < (m : Int) - 1) = false := decide_eq_false (by omega)
        have HF := Aside0.mk hf
        clear hf
        go_wp2_with (go_at_call 86; refine (clip_calls _ _ _ _ (by omega) (by omega)).mono ?_; rintro e w4 ⟨rfl, rfl⟩)
        go_ret2
        have hq := HE.out
        rw [← HF.out] at hq
        simp only [Bool.false_eq_true, if_false] at hq
        rw [hq]
        exact ⟨_, _, by rw [← HM.out]; rfl, HM.out, by rw [← HM.out]; exact C_of_own HO.out, fun ad h => (by cases h; exact Nat.le_refl _), HB.out⟩

end Go.Proofs.Ythhmjfjkbmmcaaa
/- clean.check. -/
namespace Go.Proofs.Ythhmjfjkbmmcaaa
open Go.RowKit Go.Proofs.YthhmjfjkbmmcaaaW.PrintWords Go.Proofs.YthhmjfjkbmmcaaaW.PrintLast Go.Proofs.YthhmjfjkbmmcaaaW.PrintMore
set_option linter.unusedVariables false
set_option linter.unusedSimpArgs false

theorem contains_38 (g : Nat) (lb : Array Value) (eg : ∀ args w, (callFunc g args).run Try.prog w = .ok (.enter g args) w)
    (A : Option Addr) (n c : Nat) (vs : List Value) (p : Nat → Bool) (w : World) (hn : vs.length = n) (hr : Row1 w A vs) (hp : PredRow Try.prog g lb vs p w) :
    Calls Try.prog 38 #[.slice A n c, .func (.func g) #[] lb] w fun e w' => e = .returned (.bool (decide (firstIdx p n ≥ 0))) ∧ Below w.heap.size w w' := by
  have HP := Aside0.mk hp
  have HR := Aside0.mk hr
  clear hp hr
  go_enter Try.func38, Try.ntmps38
  go_wp2_with (go_at_call 63; refine (indexFunc_63 g lb eg A n c vs p _ hn HR.out HP.out).mono ?_; rintro e w4 ⟨rfl, hb4⟩; have HB4 := Aside0.mk hb4; clear hb4)
  go_ret
  exact ⟨rfl, HB4.out⟩

/-- A literal that is none of so many variables. -/
def badLit (v x : Int) : Bool := (x == 0) || decide (x < -v) || decide (x > v)
theorem clo39_calls (b : Nat) (v x : Int) (w : World) (hc : w.cell? ⟨b, 0, none⟩ = some (.int .i64 v)) (hv0 : 0 ≤ v) (hv1 : v ≤ 262144) :
    Calls Try.prog 39 #[.int .i64 x, (.pointer (some ⟨b, 0, none⟩))] w fun e w' => e = .returned (.bool (badLit v x)) ∧ w = w' := by
  have hd0 : (x == 0) = decide (x = 0) := by rw [Bool.eq_iff_iff]; simp
  have HQ := Aside0.mk (show badLit v x = (decide (x = 0) || decide (x < -v) || decide (x > v)) by unfold badLit; rw [hd0])
  go_enter Try.func39, Try.ntmps39
  go_wp2
  all_goals go_ret
  all_goals exact ⟨by rw [HQ.out]; simp_all, rfl⟩

/-- What is wrong with a formula's clauses. -/
def chkFrom (v : Int) : List (List Int) → Int
  | [] => 0
  | c :: l => if c.length > 16384 then 2 else if c.any (badLit v) then 141 else chkFrom v l
def chk (v : Int) (ls : List (List Int)) : Int := if v < 0 ∨ v > 262144 then 1 else if ls.length > 524288 then 2 else chkFrom v ls

theorem firstFrom_any (p : Nat → Bool) (n : Nat) : ∀ k i, n < k + i → (decide (firstFrom p n k i ≥ 0) = true ↔ ∃ j, i ≤ j ∧ j < n ∧ p j = true) := by
  intro k
  induction k with
  | zero => intro i h; simp only [firstFrom]; constructor
            · intro h'; simp at h'
            · rintro ⟨j, h1, h2, _⟩; omega
  | succ k ih =>
    intro i h
    simp only [firstFrom]
    split
    · split
      · rename_i h1 h2
        refine ⟨fun _ => ⟨i, Nat.le_refl _, h1, h2⟩, fun _ => by simp⟩
      · rename_i h1 h2
        rw [ih (i + 1) (by omega)]
        refine ⟨fun ⟨j, a, b, c⟩ => ⟨j, by omega, b, c⟩, fun ⟨j, a, b, c⟩ => ⟨j, ?_, b, c⟩⟩
        rcases Nat.lt_or_ge i j with h' | h'
        · omega
        · obtain rfl : j = i := by omega
          exact absurd c h2
    · refine ⟨fun h' => by simp at h', fun ⟨j, a, b, c⟩ => by omega⟩
theorem firstIdx_any (f : Int → Bool) (xs : List Int) : decide (firstIdx (fun i => f (rd xs (i : Int))) xs.length ≥ 0) = xs.any f := by
  rw [Bool.eq_iff_iff, firstIdx, firstFrom_any _ _ _ _ (by omega), List.any_eq_true]
  constructor
  · rintro ⟨j, _, h2, h3⟩
    refine ⟨_, List.getElem_mem h2, ?_⟩
    simpa [rd, List.getD_eq_getElem?_getD, List.getElem?_eq_getElem h2] using h3
  · rintro ⟨x, hx, hf⟩
    obtain ⟨j, hj, rfl⟩ := List.mem_iff_getElem.1 hx
    exact ⟨j, Nat.zero_le _, hj, by simpa [rd, List.getD_eq_getElem?_getD, List.getElem?_eq_getElem hj] using hf⟩
theorem row1_ints {w : World} {A : Option Addr} {n : Nat} {xs : List Int} (h : (Kd.int .i64).C w A n xs) : Row1 w A (nums .i64 xs) := by
  have hN := rowN_ints h
  refine ⟨by have := hN.1; have := hN.2.1; omega, fun hn => ?_⟩
  exact hN.2.2.1 (by have := hN.1; omega)

set_option maxHeartbeats 1000000 in
theorem check_calls (v : Int) (A : Option Addr) (c : Nat) (ls : List (List Int)) (w : World) (hr : Kd.C (Kd.slice 3 (Kd.int .i64)) w A ls.length ls) :
    Calls Try.prog 20 #[.agg #[.int .i64 v, .slice A ls.length c]] w fun e w' => e = .returned (.int .i64 (chk v ls)) ∧ Below w.heap.size w w' := by
  have hmax : ls.length ≤ 9223372036854775807 := hr.2.1
  have HR := Aside0.mk hr
  obtain ⟨n, hn⟩ : ∃ n, n = ls.length := ⟨_, rfl⟩
  have HN := Aside0.mk hn
  rw [← hn] at hmax ⊢
  clear hr hn
  have e39 : ∀ args w, (callFunc 39 args).run Try.prog w = .ok (.enter 39 args) w := enters_of Try.func39 (by kernel_rfl) rfl
  have HE39 := Aside0.mk e39
  clear e39
  have HC0 := Aside0.mk (show chk v ls = if v < 0 ∨ v > 262144 then 1 else if n > 524288 then 2 else chkFrom v ls by unfold chk; rw [HN.out])
  by_cases h0 : v < 0
  · have hq := HC0.out
    rw [if_pos (Or.inl h0)] at hq
    have HC := Aside0.mk hq
    have hd : decide (v < 0) = true := decide_eq_true h0
    clear hq
    go_enter Try.func20, Try.ntmps20
    go_wp2
    go_ret
    exact ⟨by rw [HC.out]; rfl, below_alloc (Below.refl _ _) _⟩
  · have hd : decide (v < 0) = false := decide_eq_false h0
    by_cases h1 : v > 262144
    · have hq := HC0.out
      rw [if_pos (Or.inr h1)] at hq
      have HC := Aside0.mk hq
      clear hq
      go_enter Try.func20, Try.ntmps20
      go_wp2
      go_ret
      exact ⟨by rw [HC.out]; rfl, below_alloc (Below.refl _ _) _⟩
    · have hq := HC0.out
      clear HC0
      rw [if_neg (by omega)] at hq
      by_cases h2 : n > 524288
      · rw [if_pos h2] at hq
        have HC := Aside0.mk hq
        clear hq
        go_enter Try.func20, Try.ntmps20
        go_wp2
        go_ret
        exact ⟨by rw [HC.out]; rfl, below_alloc (Below.refl _ _) _⟩
      · rw [if_neg h2] at hq
        have HC := Aside0.mk hq
        clear hq
        go_enter Try.func20, Try.ntmps20
        go_wp2
        obtain ⟨w1, hw1⟩ : ∃ w1, w1 = w.alloc (.cells #[.int .i64 v, .slice A n c] 24) := ⟨_, rfl⟩
        obtain ⟨b, hb⟩ : ∃ b, b = w.heap.size := ⟨_, rfl⟩
        have HB1 := Aside0.mk (show Below w.heap.size w w1 by rw [hw1]; exact below_alloc (Below.refl _ _) _)
        have HSZ := Aside0.mk (show w.heap.size ≤ w1.heap.size from HB1.out.size)
        have HCE := Aside0.mk (show w1.cell? ⟨b, 0, none⟩ = some (.int .i64 v) by rw [hw1, hb]; unfold World.cell?; rw [heap_alloc_new]; rfl)
        rw [← hw1, ← hb]
        clear hw1 hb
        go_loopg [4, 20] (n + 1) (fun kq v4 v20 w' => ∃ i : Nat, v20 = .int .i64 (i : Int) ∧ Aside0 (chk v ls = chkFrom v (ls.drop i)) ∧ i ≤ n ∧ Aside0 (n < kq + i) ∧ Aside0 (Below w1.heap.size w1 w'))
        case atStart => exact ⟨0, rfl, HC, Nat.zero_le _, ⟨by omega⟩, ⟨Below.refl _ _⟩⟩
        case round =>
          clear HC
          obtain ⟨i, rfl, HC, hi, HK, HB⟩ := hrel
          cases gk with
          | zero => exact absurd HK.out (by omega)
          | succ k =>
            by_cases hlt : i < n
            · obtain ⟨ad, A0, c0, l, e, hl, hc, _, hrl⟩ := at_rows (Kd.C_below (Kd.C_below HR.out HB1.out) HB.out) i (by have := HN.out; omega)
              cases e
              have hq := HC.out
              rw [List.drop_eq_getElem_cons (by have := HN.out; omega)] at hq
              have hl2 : ls[i]'(by have := HN.out; omega) = l := by rw [List.getElem?_eq_getElem (by have := HN.out; omega)] at hl; exact Option.some.inj hl
              rw [hl2] at hq
              simp only [chkFrom] at hq
              clear HC hl hl2
              by_cases h3 : l.length > 16384
              · rw [if_pos h3] at hq
                have HC := Aside0.mk hq
                clear hq
                go_wp2
                go_ret
                exact ⟨by rw [HC.out]; rfl, below_then HB1.out HSZ.out HB.out⟩
              · rw [if_neg h3] at hq
                have HC := Aside0.mk hq
                have HL := Aside0.mk hrl
                have HP := Aside0.mk (show PredRow Try.prog 39 #[.pointer (some ⟨b, 0, none⟩)] (nums .i64 l) (fun j => badLit v (rd l (j : Int))) wr from by
                  intro j u hu W hW
                  have hj : j < l.length := by have := (List.getElem?_eq_some_iff.1 hu).1; rwa [nums_length] at this
                  have : u = .int .i64 (rd l (j : Int)) := by
                    simp [nums, List.getElem?_eq_getElem hj] at hu
                    rw [← hu]; simp [rd, List.getD_eq_getElem?_getD, List.getElem?_eq_getElem hj]
                  subst this
                  refine (clo39_calls b v _ W (pw_cell_below hW (pw_cell_below HB.out HCE.out)) h0 h1).mono ?_
                  rintro e w' ⟨rfl, rfl⟩
                  exact ⟨rfl, Below.refl _ _⟩)
                clear hq hrl
                have hl0 : l.length ≤ 16384 := by omega
                by_cases h4 : l.any (badLit v) = true
                · have hq := HC.out
                  rw [if_pos h4] at hq
                  have HC1 := Aside0.mk hq
                  have H4 := Aside0.mk (show decide (firstIdx (fun j => badLit v (rd l (j : Int))) l.length ≥ 0) = true by rw [firstIdx_any]; exact h4)
                  clear hq h4 HC
                  go_wp2_with (go_at_call 38; refine (contains_38 _ _ HE39.out A0 l.length c0 (nums .i64 l) _ _ (nums_length _ _) (row1_ints HL.out) HP.out).mono ?_; rintro e w4 ⟨rfl, hb4⟩; have HB4 := Aside0.mk (below_then HB.out HB.out.size hb4); rw [H4.out]; clear hb4)
                  go_ret
                  exact ⟨by rw [HC1.out]; rfl, below_then HB1.out HSZ.out HB4.out⟩
                · have hq := HC.out
                  rw [if_neg h4] at hq
                  have HC1 := Aside0.mk hq
                  have H4 := Aside0.mk (show decide (firstIdx (fun j => badLit v (rd l (j : Int))) l.length ≥ 0) = false by rw [firstIdx_any]; simpa using h4)
                  clear hq h4 HC
                  go_wp2_with (go_at_call 38; refine (contains_38 _ _ HE39.out A0 l.length c0 (nums .i64 l) _ _ (nums_length _ _) (row1_ints HL.out) HP.out).mono ?_; rintro e w4 ⟨rfl, hb4⟩; have HB4 := Aside0.mk (below_then HB.out HB.out.size hb4); rw [H4.out]; clear hb4)
                  go_roundg k
                  case measure => omega
                  case rel => exact ⟨i + 1, by go_num, HC1, by omega, ⟨by have := HK.out; omega⟩, HB4⟩
            · obtain rfl : i = n := by omega
              have hq := HC.out
              rw [HN.out, List.drop_length] at hq
              go_wp2
              go_ret
              exact ⟨by rw [hq]; rfl, below_then HB1.out HSZ.out HB.out⟩

end Go.Proofs.Ythhmjfjkbmmcaaa
/- clean.has, lits.check, lits.Normal, lits.pair. -/
namespace Go.Proofs.Ythhmjfjkbmmcaaa
open Go.RowKit Go.Proofs.YthhmjfjkbmmcaaaW.PrintWords Go.Proofs.YthhmjfjkbmmcaaaW.PrintLast Go.Proofs.YthhmjfjkbmmcaaaW.PrintMore
set_option linter.unusedVariables false
set_option linter.unusedSimpArgs false

set_option maxHeartbeats 1000000 in
theorem index_calls (A : Option Addr) (c : Nat) (xs : List Int) (x : Int) (w : World) (hr : Kd.C (Kd.int .i64) w A xs.length xs) :
    Calls Try.prog 81 #[.slice A xs.length c, .int .i64 x] w fun e w' => e = .returned (.int .i64 (firstIdx (fun i : Nat => x == rd xs (i : Int)) xs.length)) ∧ w = w' := by
  have hmax : xs.length ≤ 9223372036854775807 := hr.2.1
  have HR := Aside0.mk hr
  obtain ⟨n, hn⟩ : ∃ n, n = xs.length := ⟨_, rfl⟩
  have HN := Aside0.mk hn
  rw [← hn] at hmax HR ⊢
  obtain ⟨p, hp⟩ : ∃ p : Nat → Bool, p = fun i : Nat => x == rd xs (i : Int) := ⟨_, rfl⟩
  rw [← hp]
  have HP := Aside0.mk hp
  have H0 := Aside0.mk (show firstFrom p n (n + 1) 0 = firstIdx p n from rfl)
  clear hr hn hp
  go_enter Try.func81, Try.ntmps81
  go_wp2
  go_loopg [5, 8] (n + 1) (fun kq v5 v8 w' => ∃ i : Nat, v8 = .int .i64 (i : Int) ∧ Aside0 (firstFrom p n kq i = firstIdx p n) ∧ i ≤ n ∧ Aside0 (n < kq + i) ∧ w = w')
  case atStart => exact ⟨0, rfl, H0, Nat.zero_le _, ⟨by omega⟩, rfl⟩
  case round =>
    clear H0
    obtain ⟨i, rfl, HF, hi, HK, rfl⟩ := hrel
    cases gk with
    | zero => exact absurd HK.out (by omega)
    | succ k =>
      have hf := HF.out
      clear HF
      simp only [firstFrom] at hf
      by_cases hlt : i < n
      · rw [if_pos hlt] at hf
        obtain ⟨ad, e, hc⟩ := Kd.at_int HR.out (i : Int) (by omega) (by omega)
        cases e
        rw [Int.toNat_natCast] at hc
        have hpi : p i = (x == rd xs (i : Int)) := by rw [HP.out]
        generalize rd xs (i : Int) = y at hc hpi
        by_cases hxy : x = y
        · have hb : (x == y) = true := by simpa using hxy
          rw [hpi, hb, if_pos rfl] at hf
          have HF := Aside0.mk hf
          clear hf hpi hxy
          go_wp2
          go_ret
          exact ⟨by rw [← HF.out]; rfl, rfl⟩
        · have hb : (x == y) = false := by simpa using hxy
          rw [hpi, hb, if_neg (by simp)] at hf
          have HF := Aside0.mk hf
          clear hf hpi hxy
          go_wp2
          go_roundg k
          case measure => omega
          case rel => exact ⟨i + 1, by go_num, HF, by omega, ⟨by have := HK.out; omega⟩, rfl⟩
      · rw [if_neg hlt] at hf
        have HF := Aside0.mk hf
        clear hf
        go_wp2
        go_ret
        exact ⟨by rw [← HF.out]; rfl, rfl⟩

def has (xs : List Int) (x : Int) : Bool := xs.any (fun y => x == y)
theorem has_iff {xs : List Int} {x : Int} : has xs x = true ↔ x ∈ xs := by simp [has]
theorem has_calls (A : Option Addr) (c : Nat) (xs : List Int) (x : Int) (w : World) (hr : Kd.C (Kd.int .i64) w A xs.length xs) :
    Calls Try.prog 40 #[.slice A xs.length c, .int .i64 x] w fun e w' => e = .returned (.bool (has xs x)) ∧ w = w' := by
  have HR := Aside0.mk hr
  have HI := Aside0.mk (firstIdx_any (fun y => x == y) xs)
  clear hr
  have HC : ∀ w : World, Kd.C (Kd.int .i64) w A xs.length xs → Calls Try.prog 64 #[.slice A xs.length c, .int .i64 x] w fun e w' => e = .returned (.bool (has xs x)) ∧ w = w' := by
    intro w hr
    have HR := Aside0.mk hr
    clear hr
    go_enter Try.func64, Try.ntmps64
    go_wp2_with (go_at_call 81; refine (index_calls A c xs x _ HR.out).mono ?_; rintro e w4 ⟨rfl, rfl⟩)
    go_ret
    exact ⟨by rw [show has xs x = _ from HI.out.symm]; rfl, rfl⟩
  have HC := Aside0.mk HC
  go_enter Try.func40, Try.ntmps40
  go_wp2_with (go_at_call 64; refine (HC.out _ HR.out).mono ?_; rintro e w4 ⟨rfl, rfl⟩)
  go_ret
  exact ⟨rfl, rfl⟩

/-- A literal of a formula; a clause that may be. -/
def LitOk (x : Int) : Prop := x ≠ 0 ∧ -262144 ≤ x ∧ x ≤ 262144
def Good (l : List Int) : Prop := l.length ≤ 16384 ∧ ∀ x ∈ l, LitOk x
theorem LitOk.sml {x : Int} (h : LitOk x) : Sml x := by unfold LitOk at h; unfold Sml; omega
theorem Good.sml {l : List Int} (h : Good l) : ∀ x ∈ l, Sml x := fun x hx => (h.2 x hx).sml

theorem isForm_calls (x : Int) (w : World) (hx : LitOk x) :
    Calls Try.prog 66 #[.int .i64 x] w fun e w' => e = .returned (.bool true) ∧ w = w' := by
  obtain ⟨h0, h1, h2⟩ := hx
  have hb : (x == 0) = false := by simpa using h0
  have hb2 : (x != 0) = true := by simpa using h0
  have hd1 : decide (x ≥ -262144) = true := decide_eq_true h1
  have hd2 : decide (x ≤ 262144) = true := decide_eq_true h2
  have hd3 : decide (-262144 ≤ x) = true := decide_eq_true h1
  go_enter Try.func66, Try.ntmps66
  go_wp2
  go_ret
  exact ⟨rfl, rfl⟩

set_option maxHeartbeats 1000000 in
theorem lcheck_calls (A : Option Addr) (c : Nat) (xs : List Int) (w : World) (hr : Kd.C (Kd.int .i64) w A xs.length xs) (hg : Good xs) :
    Calls Try.prog 71 #[.slice A xs.length c] w fun e w' => e = .returned (.int .i64 0) ∧ w = w' := by
  have hmax : xs.length ≤ 16384 := hg.1
  have HR := Aside0.mk hr
  have HG := Aside0.mk hg
  obtain ⟨n, hn⟩ : ∃ n, n = xs.length := ⟨_, rfl⟩
  have HN := Aside0.mk hn
  rw [← hn] at hmax HR ⊢
  clear hr hn hg
  go_enter Try.func71, Try.ntmps71
  go_wp2
  go_loopg [4, 10] (n + 1) (fun kq v4 v10 w' => ∃ i : Nat, v10 = .int .i64 (i : Int) ∧ i ≤ n ∧ Aside0 (n < kq + i) ∧ w = w')
  case atStart => exact ⟨0, rfl, Nat.zero_le _, ⟨by omega⟩, rfl⟩
  case round =>
    obtain ⟨i, rfl, hi, HK, rfl⟩ := hrel
    cases gk with
    | zero => exact absurd HK.out (by omega)
    | succ k =>
      by_cases hlt : i < n
      · obtain ⟨ad, e, hc⟩ := Kd.at_int HR.out (i : Int) (by omega) (by omega)
        cases e
        rw [Int.toNat_natCast] at hc
        have hlit : LitOk (rd xs (i : Int)) := HG.out.2 _ (by
          have hl : i < xs.length := by have := HN.out; omega
          have : rd xs (i : Int) = xs[i] := by simp [rd, List.getD_eq_getElem?_getD, List.getElem?_eq_getElem hl]
          rw [this]; exact List.getElem_mem hl)
        generalize rd xs (i : Int) = y at hc hlit
        have HY := Aside0.mk hlit
        clear hlit
        go_wp2_with (go_at_call 66; refine (isForm_calls y _ HY.out).mono ?_; rintro e w4 ⟨rfl, rfl⟩)
        go_roundg k
        case measure => omega
        case rel => exact ⟨i + 1, by go_num, by omega, ⟨by have := HK.out; omega⟩, rfl⟩
      · go_wp2
        go_ret
        exact ⟨rfl, rfl⟩

/-- What lits.Normal answers at a clause that may be. -/
theorem Normal_calls (A : Option Addr) (c : Nat) (xs : List Int) (w : World) (hr : Kd.C (Kd.int .i64) w A xs.length xs) (hg : Good xs) :
    Calls Try.prog 43 #[.slice A xs.length c] w fun e w' => ∃ B d, e = .returned (.tuple #[.slice B (nrm xs).1.length d, .int .i64 (if (nrm xs).2 then 0 else 10)]) ∧ d = (nrm xs).1.length ∧ Kd.C (Kd.int .i64) w' B (nrm xs).1.length (nrm xs).1 ∧ (∀ ad, B = some ad → w.heap.size ≤ ad.block) ∧ Below w.heap.size w w' := by
  have hmax : xs.length ≤ 16384 := hg.1
  have HR := Aside0.mk hr
  have HG := Aside0.mk hg
  clear hr hg
  rcases hq : nrm xs with ⟨ys, ok⟩
  have HQ := Aside0.mk hq
  have HNIL := Aside0.mk (show ok = false → ys = [] from fun h => by
    unfold nrm at hq
    split at hq <;> simp_all)
  have HC : Aside0 (∀ w : World, Kd.C (Kd.int .i64) w A xs.length xs → Calls Try.prog 68 #[.slice A xs.length c] w fun e w' => ∃ B d, e = .returned (.tuple #[.slice B ys.length d, .bool ok]) ∧ d = ys.length ∧ Kd.C (Kd.int .i64) w' B ys.length ys ∧ (∀ ad, B = some ad → w.heap.size ≤ ad.block) ∧ Below w.heap.size w w') :=
    ⟨fun w h => by have := normal_calls A c xs w h HG.out.sml (by omega); rw [hq] at this; exact this⟩
  clear hq
  cases ok with
  | true =>
    go_enter Try.func43, Try.ntmps43
    go_wp2_with (first | (go_at_call 71; refine (lcheck_calls A c xs _ HR.out HG.out).mono ?_; rintro e w4 ⟨rfl, rfl⟩) | (go_at_call 68; refine (HC.out _ HR.out).mono ?_; rintro e w4 ⟨B, d, rfl, hd, hb⟩; have HB := Aside0.mk hb; clear hb))
    go_ret2
    exact ⟨_, _, rfl, rfl, HB.out.1, HB.out.2.1, HB.out.2.2⟩
  | false =>
    obtain rfl := HNIL.out rfl
    go_enter Try.func43, Try.ntmps43
    go_wp2_with (first | (go_at_call 71; refine (lcheck_calls A c xs _ HR.out HG.out).mono ?_; rintro e w4 ⟨rfl, rfl⟩) | (go_at_call 68; refine (HC.out _ HR.out).mono ?_; rintro e w4 ⟨B, d, rfl, hd, hb⟩; have HB := Aside0.mk hb; clear hb))
    go_ret2
    exact ⟨none, 0, rfl, rfl, Kd.C_nil _ _, fun ad h => (by cases h), HB.out.2.2⟩

end Go.Proofs.Ythhmjfjkbmmcaaa
/- lits.pair, lits.drop, lits.Resolve. -/
namespace Go.Proofs.Ythhmjfjkbmmcaaa
open Go.RowKit Go.Proofs.YthhmjfjkbmmcaaaW.PrintWords Go.Proofs.YthhmjfjkbmmcaaaW.PrintLast Go.Proofs.YthhmjfjkbmmcaaaW.PrintMore
set_option linter.unusedVariables false
set_option linter.unusedSimpArgs false

/-- Two clauses' normal forms. -/
def pairv (a b : List Int) : List Int × List Int × Int := if (nrm a).2 && (nrm b).2 then ((nrm a).1, (nrm b).1, 0) else ([], [], 10)

/-- Two rows in line. -/
theorem C_two {w : World} {A B : Option Addr} {c d : Nat} {xs ys : List Int} (hx : (Kd.int .i64).C w A xs.length xs) (hy : (Kd.int .i64).C w B ys.length ys) (hc : xs.length ≤ c) (hd : ys.length ≤ d) (g : Nat)
    (h0 : w.cell? ⟨g, 0, none⟩ = some (.slice A xs.length c)) (h1 : w.cell? ⟨g, 1, none⟩ = some (.slice B ys.length d)) : (Kd.slice 3 (Kd.int .i64)).C w (some ⟨g, 0, none⟩) 2 [xs, ys] := by
  refine ⟨rfl, by omega, fun _ => ⟨_, rfl, fun j p hj => ?_⟩⟩
  match j, hj with
  | 0, hj =>
    cases hj
    exact ⟨[.slice A xs.length c], rfl, ⟨A, c, rfl, hc, hx⟩, fun i u hu => by
      match i, hu with
      | 0, hu => cases hu; exact h0⟩
  | 1, hj =>
    cases hj
    exact ⟨[.slice B ys.length d], rfl, ⟨B, d, rfl, hd, hy⟩, fun i u hu => by
      match i, hu with
      | 0, hu => cases hu; exact h1⟩

theorem cell_new (w : World) (cs : Array Value) (e : TypeId) (i : Nat) : (w.alloc (.cells cs e)).cell? ⟨w.heap.size, i, none⟩ = cs[i]? := by
  unfold World.cell?
  rw [heap_alloc_new]
  rfl
theorem concat2_calls (g : Nat) (A B : Option Addr) (n1 c n2 d : Nat) (xs ys : List Int) (w : World) (hx : (Kd.int .i64).C w A n1 xs) (hy : (Kd.int .i64).C w B n2 ys) (hc : n1 ≤ c) (hd : n2 ≤ d)
    (h0 : w.cell? ⟨g, 0, none⟩ = some (.slice A n1 c)) (h1 : w.cell? ⟨g, 1, none⟩ = some (.slice B n2 d)) (hb : n1 + n2 ≤ 1099511627776) :
    Calls Try.prog 69 #[.slice (some ⟨g, 0, none⟩) 2 2] w fun e w' => ∃ v, e = .returned v ∧ w'.ownsRow w.heap.size 3 1 v (n1 + n2) (nums .i64 (xs ++ ys)) ∧ Below w.heap.size w w' := by
  obtain rfl : xs.length = n1 := hx.1
  obtain rfl : ys.length = n2 := hy.1
  have h := concat_calls (some ⟨g, 0, none⟩) 2 [xs, ys] w (C_two hx hy hc hd g h0 h1) (by simp; omega)
  have he : [xs, ys].flatten = xs ++ ys := by simp
  rw [he] at h
  refine h.mono ?_
  rintro e w' ⟨v, rfl, ho, hb⟩
  rw [List.length_append] at ho
  exact ⟨v, rfl, ho, hb⟩

set_option maxHeartbeats 1000000 in
theorem pair_calls (A B : Option Addr) (ca cb : Nat) (a b : List Int) (w : World) (ha : Kd.C (Kd.int .i64) w A a.length a) (hb : Kd.C (Kd.int .i64) w B b.length b) (ga : Good a) (gb : Good b) :
    Calls Try.prog 65 #[.slice A a.length ca, .slice B b.length cb] w fun e w' => ∃ X dx Y dy, e = .returned (.tuple #[.slice X (pairv a b).1.length dx, .slice Y (pairv a b).2.1.length dy, .int .i64 (pairv a b).2.2]) ∧ dx = (pairv a b).1.length ∧ dy = (pairv a b).2.1.length ∧ Kd.C (Kd.int .i64) w' X (pairv a b).1.length (pairv a b).1 ∧ Kd.C (Kd.int .i64) w' Y (pairv a b).2.1.length (pairv a b).2.1 ∧ Below w.heap.size w w' := by
  have hma : a.length ≤ 16384 := ga.1
  have hmb : b.length ≤ 16384 := gb.1
  have HA := Aside0.mk ha
  have HB := Aside0.mk hb
  have GA := Aside0.mk ga
  have GB := Aside0.mk gb
  have HP := Aside0.mk (show pairv a b = if (nrm a).2 && (nrm b).2 then ((nrm a).1, (nrm b).1, 0) else ([], [], 10) from rfl)
  clear ha hb ga gb
  rcases hqa : nrm a with ⟨x, oka⟩
  rcases hqb : nrm b with ⟨y, okb⟩
  obtain ⟨n1, e1⟩ : ∃ n1, n1 = a.length := ⟨_, rfl⟩
  obtain ⟨n2, e2⟩ : ∃ n2, n2 = b.length := ⟨_, rfl⟩
  have KA : Aside0 (∀ w : World, Kd.C (Kd.int .i64) w A n1 a → Calls Try.prog 71 #[.slice A n1 ca] w fun e w' => e = .returned (.int .i64 0) ∧ w = w') := ⟨fun w h => by rw [e1] at h ⊢; exact lcheck_calls A ca a w h GA.out⟩
  have KB : Aside0 (∀ w : World, Kd.C (Kd.int .i64) w B n2 b → Calls Try.prog 71 #[.slice B n2 cb] w fun e w' => e = .returned (.int .i64 0) ∧ w = w') := ⟨fun w h => by rw [e2] at h ⊢; exact lcheck_calls B cb b w h GB.out⟩
  have CA : Aside0 (∀ w : World, Kd.C (Kd.int .i64) w A n1 a → Calls Try.prog 68 #[.slice A n1 ca] w fun e w' => ∃ B d, e = .returned (.tuple #[.slice B x.length d, .bool oka]) ∧ d = x.length ∧ Kd.C (Kd.int .i64) w' B x.length x ∧ (∀ ad, B = some ad → w.heap.size ≤ ad.block) ∧ Below w.heap.size w w') :=
    ⟨fun w h => by rw [e1] at h ⊢; have := normal_calls A ca a w h GA.out.sml (by omega); rw [hqa] at this; exact this⟩
  have CB : Aside0 (∀ w : World, Kd.C (Kd.int .i64) w B n2 b → Calls Try.prog 68 #[.slice B n2 cb] w fun e w' => ∃ B d, e = .returned (.tuple #[.slice B y.length d, .bool okb]) ∧ d = y.length ∧ Kd.C (Kd.int .i64) w' B y.length y ∧ (∀ ad, B = some ad → w.heap.size ≤ ad.block) ∧ Below w.heap.size w w') :=
    ⟨fun w h => by rw [e2] at h ⊢; have := normal_calls B cb b w h GB.out.sml (by omega); rw [hqb] at this; exact this⟩
  have hp := HP.out
  rw [hqa, hqb] at hp
  clear hqa hqb HP
  rw [← e1] at HA hma
  rw [← e2] at HB hmb
  rw [← e1, ← e2]
  clear e1 e2
  by_cases hok : oka = true ∧ okb = true
  · obtain ⟨rfl, rfl⟩ := hok
    have HP := Aside0.mk (show pairv a b = (x, y, 0) from hp)
    clear hp
    rw [HP.out]
    go_enter Try.func65, Try.ntmps65
    go_wp2_with (first | (go_at_call 71; first | (refine (KA.out _ HA.out).mono ?_; clear KA; rintro e w4 ⟨rfl, rfl⟩) | (refine (KB.out _ HB.out).mono ?_; rintro e w4 ⟨rfl, rfl⟩)) | (go_at_call 68; first | (refine (CA.out _ HA.out).mono ?_; clear CA; rintro e w1 ⟨X, dx, rfl, hdx, hX, _, hb1⟩; have HX := Aside0.mk hX; have HB1 := Aside0.mk hb1; have HBB := Aside0.mk (Kd.C_below HB.out hb1); clear hX hb1) | (refine (CB.out _ HBB.out).mono ?_; rintro e w2 ⟨Y, dy, rfl, hdy, hY, _, hb2⟩; have HX2 := Aside0.mk (Kd.C_below HX.out hb2); have HY := Aside0.mk hY; have HB2 := Aside0.mk (below_then HB1.out HB1.out.size hb2); clear hY hb2)))
    (try simp only [Exit.inBlock, Exit.then]); refine bodyPost_ret (results_tmp3 rfl _ _ _) rfl ?_
    exact ⟨_, _, _, _, rfl, rfl, rfl, HX2.out, HY.out, HB2.out⟩
  · have hp2 : pairv a b = ([], [], 10) := by
      rw [hp, if_neg]
      simpa using hok
    have HP := Aside0.mk hp2
    clear hp hp2
    rw [HP.out]
    cases oka with
    | true =>
      obtain rfl : okb = false := by simpa using hok
      clear hok
      go_enter Try.func65, Try.ntmps65
      go_wp2_with (first | (go_at_call 71; first | (refine (KA.out _ HA.out).mono ?_; clear KA; rintro e w4 ⟨rfl, rfl⟩) | (refine (KB.out _ HB.out).mono ?_; rintro e w4 ⟨rfl, rfl⟩)) | (go_at_call 68; first | (refine (CA.out _ HA.out).mono ?_; clear CA; rintro e w1 ⟨X, dx, rfl, hdx, hX, _, hb1⟩; have HX := Aside0.mk hX; have HB1 := Aside0.mk hb1; have HBB := Aside0.mk (Kd.C_below HB.out hb1); clear hX hb1) | (refine (CB.out _ HBB.out).mono ?_; rintro e w2 ⟨Y, dy, rfl, hdy, hY, _, hb2⟩; have HX2 := Aside0.mk (Kd.C_below HX.out hb2); have HY := Aside0.mk hY; have HB2 := Aside0.mk (below_then HB1.out HB1.out.size hb2); clear hY hb2)))
      (try simp only [Exit.inBlock, Exit.then]); refine bodyPost_ret (results_tmp3 rfl _ _ _) rfl ?_
      exact ⟨none, 0, none, 0, rfl, rfl, rfl, Kd.C_nil _ _, Kd.C_nil _ _, HB2.out⟩
    | false =>
      clear hok
      go_enter Try.func65, Try.ntmps65
      go_wp2_with (first | (go_at_call 71; first | (refine (KA.out _ HA.out).mono ?_; clear KA; rintro e w4 ⟨rfl, rfl⟩) | (refine (KB.out _ HB.out).mono ?_; rintro e w4 ⟨rfl, rfl⟩)) | (go_at_call 68; first | (refine (CA.out _ HA.out).mono ?_; clear CA; rintro e w1 ⟨X, dx, rfl, hdx, hX, _, hb1⟩; have HX := Aside0.mk hX; have HB1 := Aside0.mk hb1; have HBB := Aside0.mk (Kd.C_below HB.out hb1); clear hX hb1) | (refine (CB.out _ HBB.out).mono ?_; rintro e w2 ⟨Y, dy, rfl, hdy, hY, _, hb2⟩; have HX2 := Aside0.mk (Kd.C_below HX.out hb2); have HY := Aside0.mk hY; have HB2 := Aside0.mk (below_then HB1.out HB1.out.size hb2); clear hY hb2)))
      (try simp only [Exit.inBlock, Exit.then]); refine bodyPost_ret (results_tmp3 rfl _ _ _) rfl ?_
      exact ⟨none, 0, none, 0, rfl, rfl, rfl, Kd.C_nil _ _, Kd.C_nil _ _, HB2.out⟩

/-- A normal clause without a literal. -/
def dropv (xs : List Int) (x : Int) : List Int := if bsHas xs x then xs.take (bsAt xs x) ++ xs.drop (bsAt xs x + 1) else xs

set_option maxHeartbeats 4000000 in
theorem drop_calls (A : Option Addr) (c : Nat) (xs : List Int) (x : Int) (w : World) (hr : Kd.C (Kd.int .i64) w A xs.length xs) (hc : xs.length ≤ c) (hcm : c ≤ 1099511627776) (hs : ∀ y ∈ xs, Sml y) (hx : Sml x) :
    Calls Try.prog 70 #[.slice A xs.length c, .int .i64 x] w fun e w' => ∃ v, e = .returned v ∧ w'.ownsRow w.heap.size 3 1 v (dropv xs x).length (nums .i64 (dropv xs x)) ∧ Below w.heap.size w w' := by
  have hmax : xs.length ≤ 1099511627776 := by omega
  have HR := Aside0.mk hr
  have HS := Aside0.mk hs
  have HX := Aside0.mk hx
  obtain ⟨i, hi⟩ : ∃ i, i = bsAt xs x := ⟨_, rfl⟩
  rcases hh : bsHas xs x with _ | _
  · have HD := Aside0.mk (show dropv xs x = xs by simp [dropv, hh])
    have HF := Aside0.mk hh
    clear hr hs hx hh
    rw [HD.out]
    go_enter Try.func70, Try.ntmps70
    go_wp2_with (first | (go_at_call 67; refine (find_calls A c xs x _ HR.out HS.out HX.out hmax).mono ?_; rintro e w' ⟨rfl, rfl⟩; rw [HF.out]) | (go_at_call 41; refine (clone_41 A xs.length c (nums .i64 xs) _ (rowN_ints HR.out) (by omega)).mono ?_; rintro e w' ⟨v, rfl, ho, hb⟩; have HO := Aside0.mk ho; have HB := Aside0.mk hb; clear ho hb))
    go_ret
    exact ⟨_, rfl, HO.out, HB.out⟩
  · have hlt : bsAt xs x < xs.length := by
      unfold bsHas at hh
      rw [Bool.and_eq_true] at hh
      exact of_decide_eq_true hh.1
    have HD := Aside0.mk (show dropv xs x = xs.take i ++ xs.drop (i + 1) by simp [dropv, hh, hi])
    have HF := Aside0.mk hh
    rw [← hi] at hlt
    have HI := Aside0.mk hi
    clear hr hs hx hh hi
    rw [HD.out]
    go_enter Try.func70, Try.ntmps70
    have h1 : IntKind.i64.wrap ((i : Int) + 1) = (i : Int) + 1 := by rw [IntKind.wrap_i64]; omega
    obtain ⟨ad, rfl⟩ : ∃ ad, A = some ad := by
      obtain ⟨ad, e, _⟩ := Kd.at_int HR.out 0 (by omega) (by omega)
      exact ⟨ad, e⟩
    have hl : (xs.take i ++ xs.drop (i + 1)).length = i + (xs.length - (i + 1)) := by simp; omega
    rw [hl]
    have C1 : Aside0 (∀ W, Below w.heap.size w W → (Kd.int .i64).C W (some ad) i (xs.take i)) := ⟨fun W hW => by
      have := Kd.C_take (Kd.C_below HR.out hW) (show i ≤ xs.length by omega)
      rwa [show (xs.take i).length = i by simp; omega] at this⟩
    by_cases hcap : i + 1 = c
    · have C2 : Aside0 (∀ W, Below w.heap.size w W → (Kd.int .i64).C W (some ad) 0 (xs.drop (i + 1))) := ⟨fun W hW => by
        have := Kd.C_drop (Kd.C_below HR.out hW) (show i + 1 ≤ xs.length by omega) hc
        rw [if_pos hcap.symm] at this
        rwa [show (xs.drop (i + 1)).length = 0 by simp; omega] at this⟩
      have hz : xs.length - (i + 1) = 0 := by omega
      rw [hz]
      go_wp2_with (first | (go_at_call 67; refine (find_calls (some ad) c xs x _ HR.out HS.out HX.out hmax).mono ?_; rintro e w' ⟨rfl, rfl⟩; rw [HF.out, ← HI.out]))
      go_region_with (go_at_call 69; refine (concat2_calls w.heap.size (some ad) (some ad) i c 0 0 (xs.take i) (xs.drop (i + 1)) _ (C1.out _ (below_drew (below_alloc (Below.refl _ _) _))) (C2.out _ (below_drew (below_alloc (Below.refl _ _) _))) (by omega) (Nat.le_refl _) (by show (w.alloc _).cell? _ = _; rw [cell_new]; rfl) (by show (w.alloc _).cell? _ = _; rw [cell_new]; rfl) (by omega)).mono ?_; rintro e w' ⟨v, rfl, ho, hb⟩; have HO := Aside0.mk ho; have HB := Aside0.mk hb; clear ho hb)
      all_goals go_wp2
      all_goals go_ret
      all_goals exact ⟨_, rfl, own_weaken HO.out (below_alloc (Below.refl w.heap.size w) _).size, below_then (below_drew (below_alloc (Below.refl _ _) _)) (below_alloc (Below.refl w.heap.size w) _).size HB.out⟩
    · have C2 : Aside0 (∀ W, Below w.heap.size w W → (Kd.int .i64).C W (some { block := ad.block, off := ad.off + (i + 1) }) (xs.length - (i + 1)) (xs.drop (i + 1))) := ⟨fun W hW => by
        have := Kd.C_drop (Kd.C_below HR.out hW) (show i + 1 ≤ xs.length by omega) hc
        rw [if_neg (fun h => hcap h.symm)] at this
        rw [show (xs.drop (i + 1)).length = xs.length - (i + 1) by simp] at this
        have he : (some ad).map (·.add ((i + 1) * (Kd.int .i64).sz)) = some { block := ad.block, off := ad.off + (i + 1) } := by
          show some (ad.add ((i + 1) * 1)) = _
          simp [Addr.add]
        rwa [he] at this⟩
      go_wp2_with (first | (go_at_call 67; refine (find_calls (some ad) c xs x _ HR.out HS.out HX.out hmax).mono ?_; rintro e w' ⟨rfl, rfl⟩; rw [HF.out, ← HI.out]))
      go_region_with (go_at_call 69; refine (concat2_calls w.heap.size (some ad) _ i c (xs.length - (i + 1)) (c - (i + 1)) (xs.take i) (xs.drop (i + 1)) _ (C1.out _ (below_drew (below_alloc (Below.refl _ _) _))) (C2.out _ (below_drew (below_alloc (Below.refl _ _) _))) (by omega) (by omega) (by show (w.alloc _).cell? _ = _; rw [cell_new]; rfl) (by show (w.alloc _).cell? _ = _; rw [cell_new]; rfl) (by omega)).mono ?_; rintro e w' ⟨v, rfl, ho, hb⟩; have HO := Aside0.mk ho; have HB := Aside0.mk hb; clear ho hb)
      all_goals go_wp2
      all_goals go_ret
      all_goals exact ⟨_, rfl, own_weaken HO.out (below_alloc (Below.refl w.heap.size w) _).size, below_then (below_drew (below_alloc (Below.refl _ _) _)) (below_alloc (Below.refl w.heap.size w) _).size HB.out⟩

end Go.Proofs.Ythhmjfjkbmmcaaa
/- lits.Resolve. -/
namespace Go.Proofs.Ythhmjfjkbmmcaaa
open Go.RowKit Go.Proofs.YthhmjfjkbmmcaaaW.PrintWords Go.Proofs.YthhmjfjkbmmcaaaW.PrintLast Go.Proofs.YthhmjfjkbmmcaaaW.PrintMore
set_option linter.unusedVariables false
set_option linter.unusedSimpArgs false

/-- What two clauses come to at a literal. -/
def resv (a b : List Int) (v : Int) : List Int × Int :=
  if (pairv a b).2.2 ≠ 0 then ([], (pairv a b).2.2)
  else if bsHas (pairv a b).1 v && bsHas (pairv a b).2.1 (-v) then
    (if (nrm (dropv (pairv a b).1 v ++ dropv (pairv a b).2.1 (-v))).2 then ((nrm (dropv (pairv a b).1 v ++ dropv (pairv a b).2.1 (-v))).1, 0) else ([], 10))
  else ([], 11)

theorem pairv_mem {a b : List Int} : (∀ x ∈ (pairv a b).1, x ∈ a) ∧ (∀ x ∈ (pairv a b).2.1, x ∈ b) ∧ (pairv a b).1.length ≤ a.length ∧ (pairv a b).2.1.length ≤ b.length ∧ ((pairv a b).2.2 = 0 ∨ (pairv a b).2.2 = 10) := by
  unfold pairv
  split
  · exact ⟨fun x h => nrm_mem h, fun x h => nrm_mem h, nrm_length _, nrm_length _, .inl rfl⟩
  · exact ⟨fun x h => by simp at h, fun x h => by simp at h, by simp, by simp, .inr rfl⟩
theorem dropv_mem {xs : List Int} {x y : Int} (h : y ∈ dropv xs x) : y ∈ xs := by
  unfold dropv at h
  split at h
  · rcases List.mem_append.1 h with h | h
    · exact List.mem_of_mem_take h
    · exact List.mem_of_mem_drop h
  · exact h
theorem dropv_length (xs : List Int) (x : Int) : (dropv xs x).length ≤ xs.length := by
  unfold dropv
  split
  · simp; omega
  · exact Nat.le_refl _
theorem own_le' {w : World} {base n c : Nat} {e : TypeId} {A : Option Addr} {xs : List Value} (h : w.ownsRow base e 1 (.slice A n c) n xs) : n ≤ c := own_le h

set_option maxHeartbeats 4000000 in
theorem resolve_calls (A B : Option Addr) (ca cb : Nat) (a b : List Int) (v : Int) (w : World) (ha : Kd.C (Kd.int .i64) w A a.length a) (hb : Kd.C (Kd.int .i64) w B b.length b) (ga : Good a) (gb : Good b) (hv : LitOk v) :
    Calls Try.prog 42 #[.slice A a.length ca, .slice B b.length cb, .int .i64 v] w fun e w' => ∃ X d, e = .returned (.tuple #[.slice X (resv a b v).1.length d, .int .i64 (resv a b v).2]) ∧ d = (resv a b v).1.length ∧ Kd.C (Kd.int .i64) w' X (resv a b v).1.length (resv a b v).1 ∧ (∀ ad, X = some ad → w.heap.size ≤ ad.block) ∧ Below w.heap.size w w' := by
  obtain ⟨hmx, hmy, hlx, hly, he⟩ := @pairv_mem a b
  have hP := pair_calls A B ca cb a b w ha hb ga gb
  have hRV := resv.eq_1 a b v
  rcases hq : pairv a b with ⟨x, y, e⟩
  rw [hq] at hmx hmy hlx hly he hP hRV
  simp only at hmx hmy hlx hly he hP hRV
  have hla := ga.1
  have hlb := gb.1
  have HSX := Aside0.mk (show ∀ z ∈ x, Sml z from fun z hz => ga.sml z (hmx z hz))
  have HSY := Aside0.mk (show ∀ z ∈ y, Sml z from fun z hz => gb.sml z (hmy z hz))
  have HSV := Aside0.mk hv.sml
  have hv2 : Sml (-v) := by have := hv.sml; unfold Sml at *; omega
  have HSW := Aside0.mk hv2
  have HV := Aside0.mk hv
  have HP := Aside0.mk hP
  have HRV := Aside0.mk hRV
  have hbv : -262144 ≤ v ∧ v ≤ 262144 := hv.2
  obtain ⟨nx, ex⟩ : ∃ nx, nx = x.length := ⟨_, rfl⟩
  obtain ⟨ny, ey⟩ : ∃ ny, ny = y.length := ⟨_, rfl⟩
  have hnx : nx ≤ 16384 := by omega
  have hny : ny ≤ 16384 := by omega
  have EX := Aside0.mk ex
  have EY := Aside0.mk ey
  rw [← ex, ← ey] at HP
  obtain ⟨na, ea⟩ : ∃ na, na = a.length := ⟨_, rfl⟩
  obtain ⟨nb, eb⟩ : ∃ nb, nb = b.length := ⟨_, rfl⟩
  rw [← ea, ← eb] at HP ⊢
  clear hmx hmy hlx hly hP hRV hq ha hb ga gb hv hv2 hla hlb ex ey ea eb
  rcases he with rfl | rfl
  · have hrv := HRV.out
    rw [if_neg (by simp)] at hrv
    clear HRV
    have F1 : Aside0 (∀ (w : World) X d, Kd.C (Kd.int .i64) w X nx x → Calls Try.prog 67 #[.slice X nx d, .int .i64 v] w fun e w' => e = .returned (.tuple #[.int .i64 (bsAt x v), .bool (bsHas x v)]) ∧ w = w') := ⟨fun w X d h => by rw [EX.out] at h ⊢; exact find_calls X d x v w h HSX.out HSV.out (by have := EX.out; omega)⟩
    have F2 : Aside0 (∀ (w : World) X d, Kd.C (Kd.int .i64) w X ny y → Calls Try.prog 67 #[.slice X ny d, .int .i64 (-v)] w fun e w' => e = .returned (.tuple #[.int .i64 (bsAt y (-v)), .bool (bsHas y (-v))]) ∧ w = w') := ⟨fun w X d h => by rw [EY.out] at h ⊢; exact find_calls X d y (-v) w h HSY.out HSW.out (by have := EY.out; omega)⟩
    have F2 : Aside0 (∀ (w : World) X d, Kd.C (Kd.int .i64) w X ny y → Calls Try.prog 67 #[.slice X ny d, .int .i64 (-v)] w fun e w' => e = .returned (.tuple #[.int .i64 (bsAt y (-v)), .bool (bsHas y (-v))]) ∧ w = w') := F2
    have D1 : Aside0 (∀ (w : World) X d, Kd.C (Kd.int .i64) w X nx x → d = nx → Calls Try.prog 70 #[.slice X nx d, .int .i64 v] w fun e w' => ∃ v', e = .returned v' ∧ w'.ownsRow w.heap.size 3 1 v' (dropv x v).length (nums .i64 (dropv x v)) ∧ Below w.heap.size w w') := ⟨fun w X d h hd => by
      rw [hd, EX.out]
      rw [EX.out] at h
      exact drop_calls X _ x v w h (Nat.le_refl _) (by have := EX.out; omega) HSX.out HSV.out⟩
    have D2 : Aside0 (∀ (w : World) X d, Kd.C (Kd.int .i64) w X ny y → d = ny → Calls Try.prog 70 #[.slice X ny d, .int .i64 (-v)] w fun e w' => ∃ v', e = .returned v' ∧ w'.ownsRow w.heap.size 3 1 v' (dropv y (-v)).length (nums .i64 (dropv y (-v))) ∧ Below w.heap.size w w') := ⟨fun w X d h hd => by
      rw [hd, EY.out]
      rw [EY.out] at h
      exact drop_calls X _ y (-v) w h (Nat.le_refl _) (by have := EY.out; omega) HSY.out HSW.out⟩
    have hd1 := dropv_length x v
    have hd2 := dropv_length y (-v)
    rw [← EX.out] at hd1
    rw [← EY.out] at hd2
    have HS1 := Aside0.mk (show ∀ z ∈ dropv x v ++ dropv y (-v), Sml z from fun z hz => by
      rcases List.mem_append.1 hz with hz | hz
      · exact HSX.out z (dropv_mem hz)
      · exact HSY.out z (dropv_mem hz))
    generalize hdx1 : dropv x v = x1 at *
    generalize hdy1 : dropv y (-v) = y1 at *
    obtain ⟨m1, e1⟩ : ∃ m1, m1 = x1.length := ⟨_, rfl⟩
    obtain ⟨m2, e2⟩ : ∃ m2, m2 = y1.length := ⟨_, rfl⟩
    rw [← e1] at hd1 D1
    rw [← e2] at hd2 D2
    rcases hn : nrm (x1 ++ y1) with ⟨z, okz⟩
    have HNZ := Aside0.mk (show okz = false → z = [] from fun h => by
      have hn' := hn
      unfold nrm at hn'
      split at hn' <;> simp_all)
    have N1 : Aside0 (∀ (w : World) X d, Kd.C (Kd.int .i64) w X (m1 + m2) (x1 ++ y1) → Calls Try.prog 68 #[.slice X (m1 + m2) d] w fun e w' => ∃ B d, e = .returned (.tuple #[.slice B z.length d, .bool okz]) ∧ d = z.length ∧ Kd.C (Kd.int .i64) w' B z.length z ∧ (∀ ad, B = some ad → w.heap.size ≤ ad.block) ∧ Below w.heap.size w w') := ⟨fun w X d h => by
      have e : m1 + m2 = (x1 ++ y1).length := by rw [List.length_append, e1, e2]
      rw [e] at h ⊢
      have := normal_calls X d (x1 ++ y1) w h HS1.out (by omega)
      rw [hn] at this
      exact this⟩
    rw [hn] at hrv
    clear hn e1 e2 hdx1 hdy1 HS1 HSX HSY
    rcases h1 : bsHas x v with _ | _
    · rw [h1, Bool.false_and, if_neg (by simp)] at hrv
      have HRV := Aside0.mk hrv
      rw [h1] at F1
      clear h1 hrv
      rw [HRV.out]
      go_enter Try.func42, Try.ntmps42
      go_wp2_with (first | (go_at_call 65; refine HP.out.mono ?_; clear HP; rintro e w1 ⟨X, dx, Y, dy, rfl, rfl, rfl, hX, hY, hb1⟩; have HX := Aside0.mk hX; have HY := Aside0.mk hY; have HB1 := Aside0.mk hb1; clear hX hY hb1) | (go_at_call 66; refine (isForm_calls v _ HV.out).mono ?_; rintro e w2 ⟨rfl, rfl⟩) | (go_at_call 67; first | (refine (F1.out _ _ _ HX.out).mono ?_; clear F1; rintro e w3 ⟨rfl, rfl⟩) | (refine (F2.out _ _ _ HY.out).mono ?_; clear F2; rintro e w3 ⟨rfl, rfl⟩)))
      go_ret2
      exact ⟨none, 0, rfl, rfl, Kd.C_nil _ _, fun ad h => (by cases h), HB1.out⟩
    · rcases h2 : bsHas y (-v) with _ | _
      · rw [h1, h2, Bool.and_false, if_neg (by simp)] at hrv
        have HRV := Aside0.mk hrv
        rw [h1] at F1
        rw [h2] at F2
        clear h1 h2 hrv
        rw [HRV.out]
        go_enter Try.func42, Try.ntmps42
        go_wp2_with (first | (go_at_call 65; refine HP.out.mono ?_; clear HP; rintro e w1 ⟨X, dx, Y, dy, rfl, rfl, rfl, hX, hY, hb1⟩; have HX := Aside0.mk hX; have HY := Aside0.mk hY; have HB1 := Aside0.mk hb1; clear hX hY hb1) | (go_at_call 66; refine (isForm_calls v _ HV.out).mono ?_; rintro e w2 ⟨rfl, rfl⟩) | (go_at_call 67; first | (refine (F1.out _ _ _ HX.out).mono ?_; clear F1; rintro e w3 ⟨rfl, rfl⟩) | (refine (F2.out _ _ _ HY.out).mono ?_; clear F2; rintro e w3 ⟨rfl, rfl⟩)))
        go_ret2
        exact ⟨none, 0, rfl, rfl, Kd.C_nil _ _, fun ad h => (by cases h), HB1.out⟩
      · rw [h1, h2, Bool.and_true, if_pos rfl] at hrv
        rw [h1] at F1
        rw [h2] at F2
        cases okz with
        | true =>
          have HRV := Aside0.mk (show resv a b v = (z, 0) from hrv)
          clear h1 h2 hrv
          rw [HRV.out]
          go_enter Try.func42, Try.ntmps42
          go_wp2_with (first | (go_at_call 65; refine HP.out.mono ?_; clear HP; rintro e w1 ⟨X, dx, Y, dy, rfl, rfl, rfl, hX, hY, hb1⟩; have HX := Aside0.mk hX; have HY := Aside0.mk hY; have HB1 := Aside0.mk hb1; clear hX hY hb1) | (go_at_call 66; refine (isForm_calls v _ HV.out).mono ?_; rintro e w2 ⟨rfl, rfl⟩) | (go_at_call 67; first | (refine (F1.out _ _ _ HX.out).mono ?_; clear F1; rintro e w3 ⟨rfl, rfl⟩) | (refine (F2.out _ _ _ HY.out).mono ?_; clear F2; rintro e w3 ⟨rfl, rfl⟩)) | (go_at_call 70; first | (refine (D1.out _ _ _ HX.out rfl).mono ?_; clear D1; rintro e w4 ⟨v1, rfl, ho1, hb4⟩; obtain ⟨X1, c1, rfl⟩ := own_slice ho1; have hle1 := own_le ho1; have HC1 := Aside0.mk (C_of_own ho1); have HB4 := Aside0.mk (below_then HB1.out HB1.out.size hb4); have HY4 := Aside0.mk (Kd.C_below HY.out hb4); clear ho1 hb4) | (refine (D2.out _ _ _ HY4.out rfl).mono ?_; clear D2; rintro e w5 ⟨v2, rfl, ho2, hb5⟩; obtain ⟨X2, c2, rfl⟩ := own_slice ho2; have hle2 := own_le ho2; have HC2 := Aside0.mk (C_of_own ho2); have HC15 := Aside0.mk (Kd.C_below HC1.out hb5); have HB5 := Aside0.mk (below_then HB4.out HB4.out.size hb5); clear ho2 hb5)) | (go_at_call 69; refine (concat2_calls _ X1 X2 m1 c1 m2 c2 _ _ _ (Kd.C_below HC15.out (below_alloc (Below.refl _ _) _)) (Kd.C_below HC2.out (below_alloc (Below.refl _ _) _)) hle1 hle2 (by rw [cell_new]; rfl) (by rw [cell_new]; rfl) (by omega)).mono ?_; rintro e w6 ⟨v3, rfl, ho3, hb6⟩; obtain ⟨X3, c3, rfl⟩ := own_slice ho3; have HC3 := Aside0.mk (C_of_own ho3); have HB6 := Aside0.mk (below_then (below_alloc HB5.out _) (below_alloc HB5.out _).size hb6); clear ho3 hb6) | (go_at_call 68; refine (N1.out _ _ _ HC3.out).mono ?_; rintro e w7 ⟨X4, c4, rfl, rfl, hC4, hfr, hb7⟩; have HFR := Aside0.mk (fun ad h => Nat.le_trans HB6.out.size (hfr ad h)); clear hfr; have HC4 := Aside0.mk hC4; have HB7 := Aside0.mk (below_then HB6.out HB6.out.size hb7); clear hC4 hb7))
          go_ret2
          exact ⟨_, _, rfl, rfl, HC4.out, HFR.out, HB7.out⟩
        | false =>
          have HRV := Aside0.mk (show resv a b v = ([], 10) from hrv)
          clear h1 h2 hrv
          rw [HRV.out]
          go_enter Try.func42, Try.ntmps42
          go_wp2_with (first | (go_at_call 65; refine HP.out.mono ?_; clear HP; rintro e w1 ⟨X, dx, Y, dy, rfl, rfl, rfl, hX, hY, hb1⟩; have HX := Aside0.mk hX; have HY := Aside0.mk hY; have HB1 := Aside0.mk hb1; clear hX hY hb1) | (go_at_call 66; refine (isForm_calls v _ HV.out).mono ?_; rintro e w2 ⟨rfl, rfl⟩) | (go_at_call 67; first | (refine (F1.out _ _ _ HX.out).mono ?_; clear F1; rintro e w3 ⟨rfl, rfl⟩) | (refine (F2.out _ _ _ HY.out).mono ?_; clear F2; rintro e w3 ⟨rfl, rfl⟩)) | (go_at_call 70; first | (refine (D1.out _ _ _ HX.out rfl).mono ?_; clear D1; rintro e w4 ⟨v1, rfl, ho1, hb4⟩; obtain ⟨X1, c1, rfl⟩ := own_slice ho1; have hle1 := own_le ho1; have HC1 := Aside0.mk (C_of_own ho1); have HB4 := Aside0.mk (below_then HB1.out HB1.out.size hb4); have HY4 := Aside0.mk (Kd.C_below HY.out hb4); clear ho1 hb4) | (refine (D2.out _ _ _ HY4.out rfl).mono ?_; clear D2; rintro e w5 ⟨v2, rfl, ho2, hb5⟩; obtain ⟨X2, c2, rfl⟩ := own_slice ho2; have hle2 := own_le ho2; have HC2 := Aside0.mk (C_of_own ho2); have HC15 := Aside0.mk (Kd.C_below HC1.out hb5); have HB5 := Aside0.mk (below_then HB4.out HB4.out.size hb5); clear ho2 hb5)) | (go_at_call 69; refine (concat2_calls _ X1 X2 m1 c1 m2 c2 _ _ _ (Kd.C_below HC15.out (below_alloc (Below.refl _ _) _)) (Kd.C_below HC2.out (below_alloc (Below.refl _ _) _)) hle1 hle2 (by rw [cell_new]; rfl) (by rw [cell_new]; rfl) (by omega)).mono ?_; rintro e w6 ⟨v3, rfl, ho3, hb6⟩; obtain ⟨X3, c3, rfl⟩ := own_slice ho3; have HC3 := Aside0.mk (C_of_own ho3); have HB6 := Aside0.mk (below_then (below_alloc HB5.out _) (below_alloc HB5.out _).size hb6); clear ho3 hb6) | (go_at_call 68; refine (N1.out _ _ _ HC3.out).mono ?_; rintro e w7 ⟨X4, c4, rfl, rfl, hC4, hfr, hb7⟩; have HFR := Aside0.mk (fun ad h => Nat.le_trans HB6.out.size (hfr ad h)); clear hfr; have HC4 := Aside0.mk hC4; have HB7 := Aside0.mk (below_then HB6.out HB6.out.size hb7); clear hC4 hb7))
          go_ret2
          exact ⟨none, 0, rfl, rfl, Kd.C_nil _ _, fun ad h => (by cases h), HB7.out⟩
  · have hrv := HRV.out
    rw [if_pos (by simp)] at hrv
    clear HRV
    have HRV := Aside0.mk hrv
    clear hrv
    rw [HRV.out]
    go_enter Try.func42, Try.ntmps42
    go_wp2_with (first | (go_at_call 65; refine HP.out.mono ?_; clear HP; rintro e w1 ⟨X, dx, Y, dy, rfl, rfl, rfl, hX, hY, hb1⟩; have HX := Aside0.mk hX; have HY := Aside0.mk hY; have HB1 := Aside0.mk hb1; clear hX hY hb1))
    go_ret2
    exact ⟨none, 0, rfl, rfl, Kd.C_nil _ _, fun ad h => (by cases h), HB1.out⟩

end Go.Proofs.Ythhmjfjkbmmcaaa
/- clean.key. -/
namespace Go.Proofs.Ythhmjfjkbmmcaaa
open Go.RowKit Go.Proofs.YthhmjfjkbmmcaaaW.PrintWords Go.Proofs.YthhmjfjkbmmcaaaW.PrintLast Go.Proofs.YthhmjfjkbmmcaaaW.PrintMore
set_option linter.unusedVariables false
set_option linter.unusedSimpArgs false

/-- A literal as four bytes. -/
def key4 (x : Int) : List Int := [x % 256, x / 256 % 256, x / 65536 % 256, x / 16777216 % 256]
def keyNums (xs : List Int) : List Int := xs.flatMap key4
theorem keyNums_length (xs : List Int) : (keyNums xs).length = 4 * xs.length := by
  induction xs with
  | nil => rfl
  | cons x xs ih => simp [keyNums, key4] at *; omega
theorem keyNums_take {xs : List Int} {i : Nat} (h : i < xs.length) : keyNums (xs.take (i + 1)) = keyNums (xs.take i) ++ key4 (rd xs (i : Int)) := by
  unfold keyNums
  rw [List.take_add_one, List.flatMap_append]
  simp [ List.getElem?_eq_getElem h, rd, List.getD_eq_getElem?_getD]
theorem infoByte : (Try.prog.info? 5).map (fun i => (i.zero, i.size, i.bytes)) = some (some (.int .u8 0), 1, 1) := by kernel_rfl
theorem rowN_nums {w : World} {k : IntKind} {g : Nat} {xs : List Int} {e : TypeId} (h : w.heap[g]? = some (.cells (nums k xs).toArray e (0, 0))) (hm : xs.length ≤ 9223372036854775807) : RowN w 1 (some ⟨g, 0, none⟩) xs.length (nums k xs) := by
  refine ⟨by rw [nums_length]; omega, hm, fun hn => ⟨_, rfl, fun j u hu => ?_⟩, fun u hu => by simp only [nums, List.mem_map] at hu; obtain ⟨q, _, rfl⟩ := hu; rfl⟩
  rw [add_plain]
  unfold World.cell?
  simp [h, hu]

theorem C_of_own8 {w : World} {base n : Nat} {e : TypeId} {A : Option Addr} {c : Nat} {xs : List Int} (h : w.ownsRow base e 1 (.slice A n c) n (nums .u8 xs)) : (Kd.int .u8).C w A n xs := by
  have hl : xs.length = n := by have := h.1; rw [nums_length] at this; omega
  subst hl
  exact (Kd.R_reads' (Kd.R_of_own (h1 := fun _ => rfl) (ok := fun _ => True) h (fun _ _ => trivial))).2.2
set_option maxRecDepth 100000 in
set_option maxHeartbeats 4000000 in
theorem key_calls (A : Option Addr) (c : Nat) (xs : List Int) (w : World) (hr : Kd.C (Kd.int .i64) w A xs.length xs) (hg : Good xs) :
    Calls Try.prog 44 #[.slice A xs.length c] w fun e w' => e = .returned (.string (strOfNums (keyNums xs))) ∧ Below w.heap.size w w' := by
  have hmax := hg.1
  have HR := Aside0.mk hr
  have HS := Aside0.mk hg.sml
  obtain ⟨n, hn⟩ : ∃ n, n = xs.length := ⟨_, rfl⟩
  have HN := Aside0.mk hn
  rw [← hn] at hmax HR ⊢
  obtain ⟨i0, hi, hz0, hz1, hz2⟩ := info_parts infoByte
  clear hr hg hn
  go_enter Try.func44, Try.ntmps44
  go_wp2_with (at_make; refine wpList_make_own _ rfl _ _ _ rfl w.heap.size 5 i0 _ 1 Try.underlying98 hi hz0 hz1 .i64 .i64 _ (4 * n) rfl rfl (by push_cast; omega) (by rw [hz2]; omega) (by unfold maxLen; omega) (Nat.le_refl _) ?_; intro w1 hown hg; have HO := Aside0.mk hown; have HB := Aside0.mk ((Below.refl w.heap.size w).grown hg (Nat.le_refl _) (by simp)); clear hown hg)
  go_loopg [3, 5, 12] (n + 1) (fun kq v3 v5 v12 w' => ∃ i : Nat, v12 = .int .i64 (i : Int) ∧ Aside0 (w'.ownsRow w.heap.size 5 1 v3 (4 * i) (nums .u8 (keyNums (xs.take i)))) ∧ i ≤ n ∧ Aside0 (n < kq + i) ∧ Aside0 (Below w.heap.size w w'))
  case atStart => exact ⟨0, rfl, ⟨by simpa [keyNums, nums] using HO.out⟩, Nat.zero_le _, ⟨by omega⟩, HB⟩
  case round =>
    clear HO HB
    obtain ⟨i, rfl, HO, hin, HK, HB⟩ := hrel
    cases gk with
    | zero => exact absurd HK.out (by omega)
    | succ k =>
      by_cases hlt : i < n
      · obtain ⟨ad, e, hc⟩ := Kd.at_int (Kd.C_below HR.out HB.out) (i : Int) (by omega) (by omega)
        cases e
        rw [Int.toNat_natCast] at hc
        have HT := Aside0.mk (keyNums_take (xs := xs) (i := i) (by have := HN.out; omega))
        have hy := rd_sml HS.out (i : Int)
        generalize rd xs (i : Int) = y at hc hy HT
        unfold Sml at hy
        go_wp2_with (at_builtin; refine law_appends rfl (.tmp 16) (.tmp 28) 98 5 (.int .u8 0) 1 1 rfl Try.underlying98 infoByte rfl (by omega) (by omega) w.heap.size _ _ _ rfl (own_alloc HO.out _) _ 4 4 (nums .u8 (key4 y)) rfl (rowN_nums (xs := key4 y) (heap_alloc_new _ _) (by simp [key4])) (by omega) (below_alloc HB.out _).size ?_; intro v1 w1 hown hg hat; have HO1 := Aside0.mk hown; have HB1 := Aside0.mk ((below_alloc HB.out _).grown hg (below_alloc HB.out _).size (own_base HO.out)); clear hown hg hat HB HO)
        go_roundg k
        case measure => omega
        case rel => exact ⟨i + 1, by go_num, ⟨by rw [HT.out, nums_append]; exact HO1.out⟩, by omega, ⟨by have := HK.out; omega⟩, HB1⟩
      · obtain rfl : i = n := by omega
        obtain ⟨A3, c3, rfl⟩ := own_slice HO.out
        have hq := HO.out
        rw [show xs.take i = xs by rw [HN.out, List.take_length]] at hq
        have hcv := Kd.C_string (dst := 9) Try.underlying98 Try.underlying5 Try.underlying9 (c := c3) (C_of_own8 hq)
        clear hq
        go_wp2
        go_ret
        exact ⟨rfl, HB.out⟩

end Go.Proofs.Ythhmjfjkbmmcaaa
