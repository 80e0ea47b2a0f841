/- What functions compute that PrintParts reaches: names, what predicates, rules, checks, blocks may be, by the program and by the reference. Conditions: lengths are an int's; slices.Compact's contract. -/
import Derived.Test.YtbbpfakobaiglaaGreatDoorWalkB
import Derived.Shelf.Slices.CompactS
import Derived.Sort.Walk0
set_option linter.unusedVariables false
set_option linter.unusedSimpArgs false
namespace Go.Vm
open Go Go.Proofs
/-- A predicate, a scope, a rule, a check, a block. -/
structure Pd where
  name : S
  terms : List Tm
def Pd.cells (p : Pd) : List V := [.str (bs p.name), .sl (p.terms.map Tm.cells)]
structure Sc where
  kind : Int
  key : S
def Sc.cells (s : Sc) : List V := [.int .i64 s.kind, .str (bs s.key)]
abbrev Exp := List OpT
def exCells (e : Exp) : List V := [.sl (e.map OpT.cells)]
structure Ru where
  head : Pd
  body : List Pd
  exprs : List Exp
  scopes : List Sc
def Ru.cells (r : Ru) : List V := [.str (bs r.head.name), .sl (r.head.terms.map Tm.cells), .sl (r.body.map Pd.cells), .sl (r.exprs.map exCells), .sl (r.scopes.map Sc.cells)]
structure Ck where
  all : Bool
  queries : List Ru
def Ck.cells (c : Ck) : List V := [.bool c.all, .sl (c.queries.map Ru.cells)]
structure Bk where
  facts : List Pd
  rules : List Ru
  checks : List Ck
  scopes : List Sc
def Bk.cells (b : Bk) : List V := [.sl (b.facts.map Pd.cells), .sl (b.rules.map Ru.cells), .sl (b.checks.map Ck.cells), .sl (b.scopes.map Sc.cells)]
/-- The place of the first that fulfils it. -/
def firstI {α : Type} (q : α → Bool) : Nat → List α → Int
  | _, [] => -1
  | i, x :: r => if q x = true then i else firstI q (i + 1) r
theorem firstI_drop {α : Type} (q : α → Bool) {l : List α} {i : Nat} (h : i < l.length) : firstI q i (l.drop i) = if q l[i] = true then (i : Int) else firstI q (i + 1) (l.drop (i + 1)) := by
  rw [List.drop_eq_getElem_cons h]
  rfl
theorem firstI_any {α : Type} (q : α → Bool) : ∀ (l : List α) (i : Nat), decide (0 ≤ firstI q i l) = l.any q
  | [], i => by simp [firstI]
  | x :: r, i => by
    simp only [firstI, List.any_cons]
    split
    · rename_i h
      simp [h]
    · rename_i h
      rw [firstI_any q r]
      simp [h]
/-- The memory that a closure looks at. -/
@[reducible] def m1 (w : V) : Mem := ⟨[[w]], [], [], []⟩
theorem f209 (X : CallRel) (g : FuncId) (w : V) (hw1 : w.ptrs = []) (hw2 : w.tks = []) (hw3 : ∀ p q, w.ren p q = w) (h179 : ¬ g = 179) (h180 : ¬ g = 180) (xs : List Pd) (hlen : xs.length ≤ 9223372036854775807) (q : Pd → Bool)
    (hg : ∀ x ∈ xs, Run cfg X g [.agg (Pd.cells x), .ptr 0 0] (m1 w) (.bool (q x)) (m1 w)) :
    Run cfg X 209 [.sl (xs.map Pd.cells), .fn (.func g) [] [.ptr 0 0]] (m1 w) (.int .i64 (firstI q 0 xs)) (m1 w) := by
  refine Run.fn [.tmp 4] [3] Tryz.func209 rfl (by simp [Tryz.ntmps209]) rfl rfl (by kernel_rfl) ?_
  simp
  refine wp_loop (fun n s => ∃ i : Nat, n = xs.length - i ∧ i ≤ xs.length ∧ firstI q 0 xs = firstI q i (xs.drop i) ∧ s = ⟨[(8, .int .i64 i), (7, .int .i64 xs.length), (0, .sl (xs.map Pd.cells)), (1, .fn (.func g) [] [.ptr 0 0]), (4, .int .i64 0)], m1 w⟩)
    { env := [8, 7, 0, 1, 4] } xs.length ⟨0, by simp, by simp, by simp, by simp [hw1, hw2, hw3]⟩ ?_
  rintro n s ⟨i, rfl, hi, hc, rfl⟩
  by_cases hlt : i < xs.length
  · rw [firstI_drop _ hlt] at hc
    have hm := hg xs[i] (List.getElem_mem hlt)
    simp only [Pd.cells] at hm
    simp [hlt, Pd.cells, h179, h180, hw1, hw2, hw3]
    refine runK_of hm ?_
    simp [hw1, hw2, hw3]
    (first | (refine guardK_true ?_ ?_ <;> intro hg <;> ((have hg0 := hg); (try simp only [decide_eq_true_eq, decide_eq_false_iff_not, Bool.not_eq_true', Bool.not_eq_false', beq_iff_eq, beq_eq_false_iff_ne, bne_iff_ne, ne_eq, bne_eq_false_iff_eq, List.isEmpty_iff, List.isEmpty_eq_false_iff] at hg) <;> (try simp [hg0, hg]) <;> clear hg0) <;> (try (revert hg; intro _))) | (refine guardK_false ?_ ?_ <;> intro hg <;> ((have hg0 := hg); (try simp only [decide_eq_true_eq, decide_eq_false_iff_not, Bool.not_eq_true', Bool.not_eq_false', beq_iff_eq, beq_eq_false_iff_ne, bne_iff_ne, ne_eq, bne_eq_false_iff_eq, List.isEmpty_iff, List.isEmpty_eq_false_iff] at hg) <;> (try simp [hg0, hg]) <;> clear hg0) <;> (try (revert hg; intro _))) | (refine boolK_by ?_ ?_ <;> intro hg <;> ((have hg0 := hg); (try simp only [decide_eq_true_eq, decide_eq_false_iff_not, Bool.not_eq_true', Bool.not_eq_false', beq_iff_eq, beq_eq_false_iff_ne, bne_iff_ne, ne_eq, bne_eq_false_iff_eq, List.isEmpty_iff, List.isEmpty_eq_false_iff] at hg) <;> (try simp [hg0, hg]) <;> clear hg0) <;> (try (revert hg; intro _))))
    · simp [hc, hw1, hw2, hw3, *]
    · refine loopK_back { env := [8, 7, 0, 1, 4] } (xs.length - (i + 1)) (by omega) ⟨i + 1, rfl, by omega, by rw [hc]; simp [*], ?_⟩
      simp [hw1, hw2, hw3, wrap64_id (n := (i : Int) + 1) (by omega) (by omega)]
  · obtain rfl : i = xs.length := by omega
    rw [List.drop_length] at hc
    simp [hc, firstI, hw1, hw2, hw3]
theorem f158 (X : CallRel) (g : FuncId) (w : V) (hw1 : w.ptrs = []) (hw2 : w.tks = []) (hw3 : ∀ p q, w.ren p q = w) (h179 : ¬ g = 179) (h180 : ¬ g = 180) (xs : List Pd) (hlen : xs.length ≤ 9223372036854775807) (q : Pd → Bool)
    (hg : ∀ x ∈ xs, Run cfg X g [.agg (Pd.cells x), .ptr 0 0] (m1 w) (.bool (q x)) (m1 w)) :
    Run cfg X 158 [.sl (xs.map Pd.cells), .fn (.func g) [] [.ptr 0 0]] (m1 w) (.bool (xs.any q)) (m1 w) := by
  have h := f209 X g w hw1 hw2 hw3 h179 h180 xs hlen q hg
  refine Run.fn [.tmp 4] [4] Tryz.func158 rfl (by simp [Tryz.ntmps158]) rfl rfl (by kernel_rfl) ?_
  simp [hw1, hw2, hw3]
  refine runK_of h ?_
  simp [hw1, hw2, hw3, ← firstI_any q xs 0]
theorem f159 (X : CallRel) (g : FuncId) (h179 : ¬ g = 179) (h180 : ¬ g = 180) (x : Pd) (p : Bool) (hg : Run cfg X g [.agg (Pd.cells x)] m0 (.bool p) m0) :
    Run cfg X 159 [.agg (Pd.cells x), .ptr 0 0] (m1 (.fn (.func g) [] [])) (.bool (!p)) (m1 (.fn (.func g) [] [])) := by
  refine Run.fn [.tmp 3] [4] Tryz.func159 rfl (by simp [Tryz.ntmps159]) rfl rfl (by kernel_rfl) ?_
  simp only [Pd.cells] at hg
  simp [Pd.cells, h179, h180]
  refine runK_of hg ?_
  simp
def fewPd (p : Pd → Bool) (most : Int) (xs : List Pd) : Bool := if (xs.length : Int) ≤ most then xs.all p else false
theorem f88 (X : CallRel) (g : FuncId) (h179 : ¬ g = 179) (h180 : ¬ g = 180) (xs : List Pd) (hlen : xs.length ≤ 9223372036854775807) (most : Int) (p : Pd → Bool) (hg : (xs.length : Int) ≤ most → ∀ x ∈ xs, Run cfg X g [.agg (Pd.cells x)] m0 (.bool (p x)) m0) :
    Run cfg X 88 [.sl (xs.map Pd.cells), .int .i64 most, .fn (.func g) [] []] m0 (.bool (fewPd p most xs)) m0 := by
  refine Run.fn [.tmp 6] [4] Tryz.func88 rfl (by simp [Tryz.ntmps88]) rfl rfl (by kernel_rfl) ?_
  simp
  (first | (refine guardK_true ?_ ?_ <;> intro hg <;> ((have hg0 := hg); (try simp only [decide_eq_true_eq, decide_eq_false_iff_not, Bool.not_eq_true', Bool.not_eq_false', beq_iff_eq, beq_eq_false_iff_ne, bne_iff_ne, ne_eq, bne_eq_false_iff_eq, List.isEmpty_iff, List.isEmpty_eq_false_iff] at hg) <;> (try simp [hg0, hg]) <;> clear hg0) <;> (try (revert hg; intro _))) | (refine guardK_false ?_ ?_ <;> intro hg <;> ((have hg0 := hg); (try simp only [decide_eq_true_eq, decide_eq_false_iff_not, Bool.not_eq_true', Bool.not_eq_false', beq_iff_eq, beq_eq_false_iff_ne, bne_iff_ne, ne_eq, bne_eq_false_iff_eq, List.isEmpty_iff, List.isEmpty_eq_false_iff] at hg) <;> (try simp [hg0, hg]) <;> clear hg0) <;> (try (revert hg; intro _))) | (refine boolK_by ?_ ?_ <;> intro hg <;> ((have hg0 := hg); (try simp only [decide_eq_true_eq, decide_eq_false_iff_not, Bool.not_eq_true', Bool.not_eq_false', beq_iff_eq, beq_eq_false_iff_ne, bne_iff_ne, ne_eq, bne_eq_false_iff_eq, List.isEmpty_iff, List.isEmpty_eq_false_iff] at hg) <;> (try simp [hg0, hg]) <;> clear hg0) <;> (try (revert hg; intro _))))
  · have h := f158 X 159 (.fn (.func g) [] []) rfl rfl (fun _ _ => rfl) (by decide) (by decide) xs hlen (fun x => !p x) fun x hx => f159 X g h179 h180 x (p x) (hg (by assumption) x hx)
    refine runK_of h ?_
    simp [fewPd, *]
    rw [List.any_eq_not_all_not]; simp
  · simp [fewPd, *]
theorem f210 (X : CallRel) (g : FuncId) (w : V) (hw1 : w.ptrs = []) (hw2 : w.tks = []) (hw3 : ∀ p q, w.ren p q = w) (h179 : ¬ g = 179) (h180 : ¬ g = 180) (xs : List Ru) (hlen : xs.length ≤ 9223372036854775807) (q : Ru → Bool)
    (hg : ∀ x ∈ xs, Run cfg X g [.agg (Ru.cells x), .ptr 0 0] (m1 w) (.bool (q x)) (m1 w)) :
    Run cfg X 210 [.sl (xs.map Ru.cells), .fn (.func g) [] [.ptr 0 0]] (m1 w) (.int .i64 (firstI q 0 xs)) (m1 w) := by
  refine Run.fn [.tmp 4] [3] Tryz.func210 rfl (by simp [Tryz.ntmps210]) rfl rfl (by kernel_rfl) ?_
  simp
  refine wp_loop (fun n s => ∃ i : Nat, n = xs.length - i ∧ i ≤ xs.length ∧ firstI q 0 xs = firstI q i (xs.drop i) ∧ s = ⟨[(8, .int .i64 i), (7, .int .i64 xs.length), (0, .sl (xs.map Ru.cells)), (1, .fn (.func g) [] [.ptr 0 0]), (4, .int .i64 0)], m1 w⟩)
    { env := [8, 7, 0, 1, 4] } xs.length ⟨0, by simp, by simp, by simp, by simp [hw1, hw2, hw3]⟩ ?_
  rintro n s ⟨i, rfl, hi, hc, rfl⟩
  by_cases hlt : i < xs.length
  · rw [firstI_drop _ hlt] at hc
    have hm := hg xs[i] (List.getElem_mem hlt)
    simp only [Ru.cells] at hm
    simp [hlt, Ru.cells, h179, h180, hw1, hw2, hw3]
    refine runK_of hm ?_
    simp [hw1, hw2, hw3]
    (first | (refine guardK_true ?_ ?_ <;> intro hg <;> ((have hg0 := hg); (try simp only [decide_eq_true_eq, decide_eq_false_iff_not, Bool.not_eq_true', Bool.not_eq_false', beq_iff_eq, beq_eq_false_iff_ne, bne_iff_ne, ne_eq, bne_eq_false_iff_eq, List.isEmpty_iff, List.isEmpty_eq_false_iff] at hg) <;> (try simp [hg0, hg]) <;> clear hg0) <;> (try (revert hg; intro _))) | (refine guardK_false ?_ ?_ <;> intro hg <;> ((have hg0 := hg); (try simp only [decide_eq_true_eq, decide_eq_false_iff_not, Bool.not_eq_true', Bool.not_eq_false', beq_iff_eq, beq_eq_false_iff_ne, bne_iff_ne, ne_eq, bne_eq_false_iff_eq, List.isEmpty_iff, List.isEmpty_eq_false_iff] at hg) <;> (try simp [hg0, hg]) <;> clear hg0) <;> (try (revert hg; intro _))) | (refine boolK_by ?_ ?_ <;> intro hg <;> ((have hg0 := hg); (try simp only [decide_eq_true_eq, decide_eq_false_iff_not, Bool.not_eq_true', Bool.not_eq_false', beq_iff_eq, beq_eq_false_iff_ne, bne_iff_ne, ne_eq, bne_eq_false_iff_eq, List.isEmpty_iff, List.isEmpty_eq_false_iff] at hg) <;> (try simp [hg0, hg]) <;> clear hg0) <;> (try (revert hg; intro _))))
    · simp [hc, hw1, hw2, hw3, *]
    · refine loopK_back { env := [8, 7, 0, 1, 4] } (xs.length - (i + 1)) (by omega) ⟨i + 1, rfl, by omega, by rw [hc]; simp [*], ?_⟩
      simp [hw1, hw2, hw3, wrap64_id (n := (i : Int) + 1) (by omega) (by omega)]
  · obtain rfl : i = xs.length := by omega
    rw [List.drop_length] at hc
    simp [hc, firstI, hw1, hw2, hw3]
theorem f160 (X : CallRel) (g : FuncId) (w : V) (hw1 : w.ptrs = []) (hw2 : w.tks = []) (hw3 : ∀ p q, w.ren p q = w) (h179 : ¬ g = 179) (h180 : ¬ g = 180) (xs : List Ru) (hlen : xs.length ≤ 9223372036854775807) (q : Ru → Bool)
    (hg : ∀ x ∈ xs, Run cfg X g [.agg (Ru.cells x), .ptr 0 0] (m1 w) (.bool (q x)) (m1 w)) :
    Run cfg X 160 [.sl (xs.map Ru.cells), .fn (.func g) [] [.ptr 0 0]] (m1 w) (.bool (xs.any q)) (m1 w) := by
  have h := f210 X g w hw1 hw2 hw3 h179 h180 xs hlen q hg
  refine Run.fn [.tmp 4] [4] Tryz.func160 rfl (by simp [Tryz.ntmps160]) rfl rfl (by kernel_rfl) ?_
  simp [hw1, hw2, hw3]
  refine runK_of h ?_
  simp [hw1, hw2, hw3, ← firstI_any q xs 0]
theorem f161 (X : CallRel) (g : FuncId) (h179 : ¬ g = 179) (h180 : ¬ g = 180) (x : Ru) (p : Bool) (hg : Run cfg X g [.agg (Ru.cells x)] m0 (.bool p) m0) :
    Run cfg X 161 [.agg (Ru.cells x), .ptr 0 0] (m1 (.fn (.func g) [] [])) (.bool (!p)) (m1 (.fn (.func g) [] [])) := by
  refine Run.fn [.tmp 3] [4] Tryz.func161 rfl (by simp [Tryz.ntmps161]) rfl rfl (by kernel_rfl) ?_
  simp only [Ru.cells] at hg
  simp [Ru.cells, h179, h180]
  refine runK_of hg ?_
  simp
def fewRu (p : Ru → Bool) (most : Int) (xs : List Ru) : Bool := if (xs.length : Int) ≤ most then xs.all p else false
theorem f89 (X : CallRel) (g : FuncId) (h179 : ¬ g = 179) (h180 : ¬ g = 180) (xs : List Ru) (hlen : xs.length ≤ 9223372036854775807) (most : Int) (p : Ru → Bool) (hg : (xs.length : Int) ≤ most → ∀ x ∈ xs, Run cfg X g [.agg (Ru.cells x)] m0 (.bool (p x)) m0) :
    Run cfg X 89 [.sl (xs.map Ru.cells), .int .i64 most, .fn (.func g) [] []] m0 (.bool (fewRu p most xs)) m0 := by
  refine Run.fn [.tmp 6] [4] Tryz.func89 rfl (by simp [Tryz.ntmps89]) rfl rfl (by kernel_rfl) ?_
  simp
  (first | (refine guardK_true ?_ ?_ <;> intro hg <;> ((have hg0 := hg); (try simp only [decide_eq_true_eq, decide_eq_false_iff_not, Bool.not_eq_true', Bool.not_eq_false', beq_iff_eq, beq_eq_false_iff_ne, bne_iff_ne, ne_eq, bne_eq_false_iff_eq, List.isEmpty_iff, List.isEmpty_eq_false_iff] at hg) <;> (try simp [hg0, hg]) <;> clear hg0) <;> (try (revert hg; intro _))) | (refine guardK_false ?_ ?_ <;> intro hg <;> ((have hg0 := hg); (try simp only [decide_eq_true_eq, decide_eq_false_iff_not, Bool.not_eq_true', Bool.not_eq_false', beq_iff_eq, beq_eq_false_iff_ne, bne_iff_ne, ne_eq, bne_eq_false_iff_eq, List.isEmpty_iff, List.isEmpty_eq_false_iff] at hg) <;> (try simp [hg0, hg]) <;> clear hg0) <;> (try (revert hg; intro _))) | (refine boolK_by ?_ ?_ <;> intro hg <;> ((have hg0 := hg); (try simp only [decide_eq_true_eq, decide_eq_false_iff_not, Bool.not_eq_true', Bool.not_eq_false', beq_iff_eq, beq_eq_false_iff_ne, bne_iff_ne, ne_eq, bne_eq_false_iff_eq, List.isEmpty_iff, List.isEmpty_eq_false_iff] at hg) <;> (try simp [hg0, hg]) <;> clear hg0) <;> (try (revert hg; intro _))))
  · have h := f160 X 161 (.fn (.func g) [] []) rfl rfl (fun _ _ => rfl) (by decide) (by decide) xs hlen (fun x => !p x) fun x hx => f161 X g h179 h180 x (p x) (hg (by assumption) x hx)
    refine runK_of h ?_
    simp [fewRu, *]
    rw [List.any_eq_not_all_not]; simp
  · simp [fewRu, *]
theorem f211 (X : CallRel) (g : FuncId) (w : V) (hw1 : w.ptrs = []) (hw2 : w.tks = []) (hw3 : ∀ p q, w.ren p q = w) (h179 : ¬ g = 179) (h180 : ¬ g = 180) (xs : List Ck) (hlen : xs.length ≤ 9223372036854775807) (q : Ck → Bool)
    (hg : ∀ x ∈ xs, Run cfg X g [.agg (Ck.cells x), .ptr 0 0] (m1 w) (.bool (q x)) (m1 w)) :
    Run cfg X 211 [.sl (xs.map Ck.cells), .fn (.func g) [] [.ptr 0 0]] (m1 w) (.int .i64 (firstI q 0 xs)) (m1 w) := by
  refine Run.fn [.tmp 4] [3] Tryz.func211 rfl (by simp [Tryz.ntmps211]) rfl rfl (by kernel_rfl) ?_
  simp
  refine wp_loop (fun n s => ∃ i : Nat, n = xs.length - i ∧ i ≤ xs.length ∧ firstI q 0 xs = firstI q i (xs.drop i) ∧ s = ⟨[(8, .int .i64 i), (7, .int .i64 xs.length), (0, .sl (xs.map Ck.cells)), (1, .fn (.func g) [] [.ptr 0 0]), (4, .int .i64 0)], m1 w⟩)
    { env := [8, 7, 0, 1, 4] } xs.length ⟨0, by simp, by simp, by simp, by simp [hw1, hw2, hw3]⟩ ?_
  rintro n s ⟨i, rfl, hi, hc, rfl⟩
  by_cases hlt : i < xs.length
  · rw [firstI_drop _ hlt] at hc
    have hm := hg xs[i] (List.getElem_mem hlt)
    simp only [Ck.cells] at hm
    simp [hlt, Ck.cells, h179, h180, hw1, hw2, hw3]
    refine runK_of hm ?_
    simp [hw1, hw2, hw3]
    (first | (refine guardK_true ?_ ?_ <;> intro hg <;> ((have hg0 := hg); (try simp only [decide_eq_true_eq, decide_eq_false_iff_not, Bool.not_eq_true', Bool.not_eq_false', beq_iff_eq, beq_eq_false_iff_ne, bne_iff_ne, ne_eq, bne_eq_false_iff_eq, List.isEmpty_iff, List.isEmpty_eq_false_iff] at hg) <;> (try simp [hg0, hg]) <;> clear hg0) <;> (try (revert hg; intro _))) | (refine guardK_false ?_ ?_ <;> intro hg <;> ((have hg0 := hg); (try simp only [decide_eq_true_eq, decide_eq_false_iff_not, Bool.not_eq_true', Bool.not_eq_false', beq_iff_eq, beq_eq_false_iff_ne, bne_iff_ne, ne_eq, bne_eq_false_iff_eq, List.isEmpty_iff, List.isEmpty_eq_false_iff] at hg) <;> (try simp [hg0, hg]) <;> clear hg0) <;> (try (revert hg; intro _))) | (refine boolK_by ?_ ?_ <;> intro hg <;> ((have hg0 := hg); (try simp only [decide_eq_true_eq, decide_eq_false_iff_not, Bool.not_eq_true', Bool.not_eq_false', beq_iff_eq, beq_eq_false_iff_ne, bne_iff_ne, ne_eq, bne_eq_false_iff_eq, List.isEmpty_iff, List.isEmpty_eq_false_iff] at hg) <;> (try simp [hg0, hg]) <;> clear hg0) <;> (try (revert hg; intro _))))
    · simp [hc, hw1, hw2, hw3, *]
    · refine loopK_back { env := [8, 7, 0, 1, 4] } (xs.length - (i + 1)) (by omega) ⟨i + 1, rfl, by omega, by rw [hc]; simp [*], ?_⟩
      simp [hw1, hw2, hw3, wrap64_id (n := (i : Int) + 1) (by omega) (by omega)]
  · obtain rfl : i = xs.length := by omega
    rw [List.drop_length] at hc
    simp [hc, firstI, hw1, hw2, hw3]
theorem f162 (X : CallRel) (g : FuncId) (w : V) (hw1 : w.ptrs = []) (hw2 : w.tks = []) (hw3 : ∀ p q, w.ren p q = w) (h179 : ¬ g = 179) (h180 : ¬ g = 180) (xs : List Ck) (hlen : xs.length ≤ 9223372036854775807) (q : Ck → Bool)
    (hg : ∀ x ∈ xs, Run cfg X g [.agg (Ck.cells x), .ptr 0 0] (m1 w) (.bool (q x)) (m1 w)) :
    Run cfg X 162 [.sl (xs.map Ck.cells), .fn (.func g) [] [.ptr 0 0]] (m1 w) (.bool (xs.any q)) (m1 w) := by
  have h := f211 X g w hw1 hw2 hw3 h179 h180 xs hlen q hg
  refine Run.fn [.tmp 4] [4] Tryz.func162 rfl (by simp [Tryz.ntmps162]) rfl rfl (by kernel_rfl) ?_
  simp [hw1, hw2, hw3]
  refine runK_of h ?_
  simp [hw1, hw2, hw3, ← firstI_any q xs 0]
theorem f163 (X : CallRel) (g : FuncId) (h179 : ¬ g = 179) (h180 : ¬ g = 180) (x : Ck) (p : Bool) (hg : Run cfg X g [.agg (Ck.cells x)] m0 (.bool p) m0) :
    Run cfg X 163 [.agg (Ck.cells x), .ptr 0 0] (m1 (.fn (.func g) [] [])) (.bool (!p)) (m1 (.fn (.func g) [] [])) := by
  refine Run.fn [.tmp 3] [4] Tryz.func163 rfl (by simp [Tryz.ntmps163]) rfl rfl (by kernel_rfl) ?_
  simp only [Ck.cells] at hg
  simp [Ck.cells, h179, h180]
  refine runK_of hg ?_
  simp
def fewCk (p : Ck → Bool) (most : Int) (xs : List Ck) : Bool := if (xs.length : Int) ≤ most then xs.all p else false
theorem f90 (X : CallRel) (g : FuncId) (h179 : ¬ g = 179) (h180 : ¬ g = 180) (xs : List Ck) (hlen : xs.length ≤ 9223372036854775807) (most : Int) (p : Ck → Bool) (hg : (xs.length : Int) ≤ most → ∀ x ∈ xs, Run cfg X g [.agg (Ck.cells x)] m0 (.bool (p x)) m0) :
    Run cfg X 90 [.sl (xs.map Ck.cells), .int .i64 most, .fn (.func g) [] []] m0 (.bool (fewCk p most xs)) m0 := by
  refine Run.fn [.tmp 6] [4] Tryz.func90 rfl (by simp [Tryz.ntmps90]) rfl rfl (by kernel_rfl) ?_
  simp
  (first | (refine guardK_true ?_ ?_ <;> intro hg <;> ((have hg0 := hg); (try simp only [decide_eq_true_eq, decide_eq_false_iff_not, Bool.not_eq_true', Bool.not_eq_false', beq_iff_eq, beq_eq_false_iff_ne, bne_iff_ne, ne_eq, bne_eq_false_iff_eq, List.isEmpty_iff, List.isEmpty_eq_false_iff] at hg) <;> (try simp [hg0, hg]) <;> clear hg0) <;> (try (revert hg; intro _))) | (refine guardK_false ?_ ?_ <;> intro hg <;> ((have hg0 := hg); (try simp only [decide_eq_true_eq, decide_eq_false_iff_not, Bool.not_eq_true', Bool.not_eq_false', beq_iff_eq, beq_eq_false_iff_ne, bne_iff_ne, ne_eq, bne_eq_false_iff_eq, List.isEmpty_iff, List.isEmpty_eq_false_iff] at hg) <;> (try simp [hg0, hg]) <;> clear hg0) <;> (try (revert hg; intro _))) | (refine boolK_by ?_ ?_ <;> intro hg <;> ((have hg0 := hg); (try simp only [decide_eq_true_eq, decide_eq_false_iff_not, Bool.not_eq_true', Bool.not_eq_false', beq_iff_eq, beq_eq_false_iff_ne, bne_iff_ne, ne_eq, bne_eq_false_iff_eq, List.isEmpty_iff, List.isEmpty_eq_false_iff] at hg) <;> (try simp [hg0, hg]) <;> clear hg0) <;> (try (revert hg; intro _))))
  · have h := f162 X 163 (.fn (.func g) [] []) rfl rfl (fun _ _ => rfl) (by decide) (by decide) xs hlen (fun x => !p x) fun x hx => f163 X g h179 h180 x (p x) (hg (by assumption) x hx)
    refine runK_of h ?_
    simp [fewCk, *]
    rw [List.any_eq_not_all_not]; simp
  · simp [fewCk, *]
theorem f212 (X : CallRel) (g : FuncId) (w : V) (hw1 : w.ptrs = []) (hw2 : w.tks = []) (hw3 : ∀ p q, w.ren p q = w) (h179 : ¬ g = 179) (h180 : ¬ g = 180) (xs : List Sc) (hlen : xs.length ≤ 9223372036854775807) (q : Sc → Bool)
    (hg : ∀ x ∈ xs, Run cfg X g [.agg (Sc.cells x), .ptr 0 0] (m1 w) (.bool (q x)) (m1 w)) :
    Run cfg X 212 [.sl (xs.map Sc.cells), .fn (.func g) [] [.ptr 0 0]] (m1 w) (.int .i64 (firstI q 0 xs)) (m1 w) := by
  refine Run.fn [.tmp 4] [3] Tryz.func212 rfl (by simp [Tryz.ntmps212]) rfl rfl (by kernel_rfl) ?_
  simp
  refine wp_loop (fun n s => ∃ i : Nat, n = xs.length - i ∧ i ≤ xs.length ∧ firstI q 0 xs = firstI q i (xs.drop i) ∧ s = ⟨[(8, .int .i64 i), (7, .int .i64 xs.length), (0, .sl (xs.map Sc.cells)), (1, .fn (.func g) [] [.ptr 0 0]), (4, .int .i64 0)], m1 w⟩)
    { env := [8, 7, 0, 1, 4] } xs.length ⟨0, by simp, by simp, by simp, by simp [hw1, hw2, hw3]⟩ ?_
  rintro n s ⟨i, rfl, hi, hc, rfl⟩
  by_cases hlt : i < xs.length
  · rw [firstI_drop _ hlt] at hc
    have hm := hg xs[i] (List.getElem_mem hlt)
    simp only [Sc.cells] at hm
    simp [hlt, Sc.cells, h179, h180, hw1, hw2, hw3]
    refine runK_of hm ?_
    simp [hw1, hw2, hw3]
    (first | (refine guardK_true ?_ ?_ <;> intro hg <;> ((have hg0 := hg); (try simp only [decide_eq_true_eq, decide_eq_false_iff_not, Bool.not_eq_true', Bool.not_eq_false', beq_iff_eq, beq_eq_false_iff_ne, bne_iff_ne, ne_eq, bne_eq_false_iff_eq, List.isEmpty_iff, List.isEmpty_eq_false_iff] at hg) <;> (try simp [hg0, hg]) <;> clear hg0) <;> (try (revert hg; intro _))) | (refine guardK_false ?_ ?_ <;> intro hg <;> ((have hg0 := hg); (try simp only [decide_eq_true_eq, decide_eq_false_iff_not, Bool.not_eq_true', Bool.not_eq_false', beq_iff_eq, beq_eq_false_iff_ne, bne_iff_ne, ne_eq, bne_eq_false_iff_eq, List.isEmpty_iff, List.isEmpty_eq_false_iff] at hg) <;> (try simp [hg0, hg]) <;> clear hg0) <;> (try (revert hg; intro _))) | (refine boolK_by ?_ ?_ <;> intro hg <;> ((have hg0 := hg); (try simp only [decide_eq_true_eq, decide_eq_false_iff_not, Bool.not_eq_true', Bool.not_eq_false', beq_iff_eq, beq_eq_false_iff_ne, bne_iff_ne, ne_eq, bne_eq_false_iff_eq, List.isEmpty_iff, List.isEmpty_eq_false_iff] at hg) <;> (try simp [hg0, hg]) <;> clear hg0) <;> (try (revert hg; intro _))))
    · simp [hc, hw1, hw2, hw3, *]
    · refine loopK_back { env := [8, 7, 0, 1, 4] } (xs.length - (i + 1)) (by omega) ⟨i + 1, rfl, by omega, by rw [hc]; simp [*], ?_⟩
      simp [hw1, hw2, hw3, wrap64_id (n := (i : Int) + 1) (by omega) (by omega)]
  · obtain rfl : i = xs.length := by omega
    rw [List.drop_length] at hc
    simp [hc, firstI, hw1, hw2, hw3]
theorem f164 (X : CallRel) (g : FuncId) (w : V) (hw1 : w.ptrs = []) (hw2 : w.tks = []) (hw3 : ∀ p q, w.ren p q = w) (h179 : ¬ g = 179) (h180 : ¬ g = 180) (xs : List Sc) (hlen : xs.length ≤ 9223372036854775807) (q : Sc → Bool)
    (hg : ∀ x ∈ xs, Run cfg X g [.agg (Sc.cells x), .ptr 0 0] (m1 w) (.bool (q x)) (m1 w)) :
    Run cfg X 164 [.sl (xs.map Sc.cells), .fn (.func g) [] [.ptr 0 0]] (m1 w) (.bool (xs.any q)) (m1 w) := by
  have h := f212 X g w hw1 hw2 hw3 h179 h180 xs hlen q hg
  refine Run.fn [.tmp 4] [4] Tryz.func164 rfl (by simp [Tryz.ntmps164]) rfl rfl (by kernel_rfl) ?_
  simp [hw1, hw2, hw3]
  refine runK_of h ?_
  simp [hw1, hw2, hw3, ← firstI_any q xs 0]
theorem f165 (X : CallRel) (g : FuncId) (h179 : ¬ g = 179) (h180 : ¬ g = 180) (x : Sc) (p : Bool) (hg : Run cfg X g [.agg (Sc.cells x)] m0 (.bool p) m0) :
    Run cfg X 165 [.agg (Sc.cells x), .ptr 0 0] (m1 (.fn (.func g) [] [])) (.bool (!p)) (m1 (.fn (.func g) [] [])) := by
  refine Run.fn [.tmp 3] [4] Tryz.func165 rfl (by simp [Tryz.ntmps165]) rfl rfl (by kernel_rfl) ?_
  simp only [Sc.cells] at hg
  simp [Sc.cells, h179, h180]
  refine runK_of hg ?_
  simp
def fewSc (p : Sc → Bool) (most : Int) (xs : List Sc) : Bool := if (xs.length : Int) ≤ most then xs.all p else false
theorem f91 (X : CallRel) (g : FuncId) (h179 : ¬ g = 179) (h180 : ¬ g = 180) (xs : List Sc) (hlen : xs.length ≤ 9223372036854775807) (most : Int) (p : Sc → Bool) (hg : (xs.length : Int) ≤ most → ∀ x ∈ xs, Run cfg X g [.agg (Sc.cells x)] m0 (.bool (p x)) m0) :
    Run cfg X 91 [.sl (xs.map Sc.cells), .int .i64 most, .fn (.func g) [] []] m0 (.bool (fewSc p most xs)) m0 := by
  refine Run.fn [.tmp 6] [4] Tryz.func91 rfl (by simp [Tryz.ntmps91]) rfl rfl (by kernel_rfl) ?_
  simp
  (first | (refine guardK_true ?_ ?_ <;> intro hg <;> ((have hg0 := hg); (try simp only [decide_eq_true_eq, decide_eq_false_iff_not, Bool.not_eq_true', Bool.not_eq_false', beq_iff_eq, beq_eq_false_iff_ne, bne_iff_ne, ne_eq, bne_eq_false_iff_eq, List.isEmpty_iff, List.isEmpty_eq_false_iff] at hg) <;> (try simp [hg0, hg]) <;> clear hg0) <;> (try (revert hg; intro _))) | (refine guardK_false ?_ ?_ <;> intro hg <;> ((have hg0 := hg); (try simp only [decide_eq_true_eq, decide_eq_false_iff_not, Bool.not_eq_true', Bool.not_eq_false', beq_iff_eq, beq_eq_false_iff_ne, bne_iff_ne, ne_eq, bne_eq_false_iff_eq, List.isEmpty_iff, List.isEmpty_eq_false_iff] at hg) <;> (try simp [hg0, hg]) <;> clear hg0) <;> (try (revert hg; intro _))) | (refine boolK_by ?_ ?_ <;> intro hg <;> ((have hg0 := hg); (try simp only [decide_eq_true_eq, decide_eq_false_iff_not, Bool.not_eq_true', Bool.not_eq_false', beq_iff_eq, beq_eq_false_iff_ne, bne_iff_ne, ne_eq, bne_eq_false_iff_eq, List.isEmpty_iff, List.isEmpty_eq_false_iff] at hg) <;> (try simp [hg0, hg]) <;> clear hg0) <;> (try (revert hg; intro _))))
  · have h := f164 X 165 (.fn (.func g) [] []) rfl rfl (fun _ _ => rfl) (by decide) (by decide) xs hlen (fun x => !p x) fun x hx => f165 X g h179 h180 x (p x) (hg (by assumption) x hx)
    refine runK_of h ?_
    simp [fewSc, *]
    rw [List.any_eq_not_all_not]; simp
  · simp [fewSc, *]
theorem f215 (X : CallRel) (g : FuncId) (w : V) (hw1 : w.ptrs = []) (hw2 : w.tks = []) (hw3 : ∀ p q, w.ren p q = w) (h179 : ¬ g = 179) (h180 : ¬ g = 180) (xs : List Tm) (hlen : xs.length ≤ 9223372036854775807) (q : Tm → Bool)
    (hg : ∀ x ∈ xs, Run cfg X g [.agg (Tm.cells x), .ptr 0 0] (m1 w) (.bool (q x)) (m1 w)) :
    Run cfg X 215 [.sl (xs.map Tm.cells), .fn (.func g) [] [.ptr 0 0]] (m1 w) (.int .i64 (firstI q 0 xs)) (m1 w) := by
  refine Run.fn [.tmp 4] [3] Tryz.func215 rfl (by simp [Tryz.ntmps215]) rfl rfl (by kernel_rfl) ?_
  simp
  refine wp_loop (fun n s => ∃ i : Nat, n = xs.length - i ∧ i ≤ xs.length ∧ firstI q 0 xs = firstI q i (xs.drop i) ∧ s = ⟨[(8, .int .i64 i), (7, .int .i64 xs.length), (0, .sl (xs.map Tm.cells)), (1, .fn (.func g) [] [.ptr 0 0]), (4, .int .i64 0)], m1 w⟩)
    { env := [8, 7, 0, 1, 4] } xs.length ⟨0, by simp, by simp, by simp, by simp [hw1, hw2, hw3]⟩ ?_
  rintro n s ⟨i, rfl, hi, hc, rfl⟩
  by_cases hlt : i < xs.length
  · rw [firstI_drop _ hlt] at hc
    have hm := hg xs[i] (List.getElem_mem hlt)
    simp only [Tm.cells_eq] at hm
    simp [hlt, Tm.cells_eq, h179, h180, hw1, hw2, hw3]
    refine runK_of hm ?_
    simp [hw1, hw2, hw3]
    (first | (refine guardK_true ?_ ?_ <;> intro hg <;> ((have hg0 := hg); (try simp only [decide_eq_true_eq, decide_eq_false_iff_not, Bool.not_eq_true', Bool.not_eq_false', beq_iff_eq, beq_eq_false_iff_ne, bne_iff_ne, ne_eq, bne_eq_false_iff_eq, List.isEmpty_iff, List.isEmpty_eq_false_iff] at hg) <;> (try simp [hg0, hg]) <;> clear hg0) <;> (try (revert hg; intro _))) | (refine guardK_false ?_ ?_ <;> intro hg <;> ((have hg0 := hg); (try simp only [decide_eq_true_eq, decide_eq_false_iff_not, Bool.not_eq_true', Bool.not_eq_false', beq_iff_eq, beq_eq_false_iff_ne, bne_iff_ne, ne_eq, bne_eq_false_iff_eq, List.isEmpty_iff, List.isEmpty_eq_false_iff] at hg) <;> (try simp [hg0, hg]) <;> clear hg0) <;> (try (revert hg; intro _))) | (refine boolK_by ?_ ?_ <;> intro hg <;> ((have hg0 := hg); (try simp only [decide_eq_true_eq, decide_eq_false_iff_not, Bool.not_eq_true', Bool.not_eq_false', beq_iff_eq, beq_eq_false_iff_ne, bne_iff_ne, ne_eq, bne_eq_false_iff_eq, List.isEmpty_iff, List.isEmpty_eq_false_iff] at hg) <;> (try simp [hg0, hg]) <;> clear hg0) <;> (try (revert hg; intro _))))
    · simp [hc, hw1, hw2, hw3, *]
    · refine loopK_back { env := [8, 7, 0, 1, 4] } (xs.length - (i + 1)) (by omega) ⟨i + 1, rfl, by omega, by rw [hc]; simp [*], ?_⟩
      simp [hw1, hw2, hw3, wrap64_id (n := (i : Int) + 1) (by omega) (by omega)]
  · obtain rfl : i = xs.length := by omega
    rw [List.drop_length] at hc
    simp [hc, firstI, hw1, hw2, hw3]
theorem f170 (X : CallRel) (g : FuncId) (w : V) (hw1 : w.ptrs = []) (hw2 : w.tks = []) (hw3 : ∀ p q, w.ren p q = w) (h179 : ¬ g = 179) (h180 : ¬ g = 180) (xs : List Tm) (hlen : xs.length ≤ 9223372036854775807) (q : Tm → Bool)
    (hg : ∀ x ∈ xs, Run cfg X g [.agg (Tm.cells x), .ptr 0 0] (m1 w) (.bool (q x)) (m1 w)) :
    Run cfg X 170 [.sl (xs.map Tm.cells), .fn (.func g) [] [.ptr 0 0]] (m1 w) (.bool (xs.any q)) (m1 w) := by
  have h := f215 X g w hw1 hw2 hw3 h179 h180 xs hlen q hg
  refine Run.fn [.tmp 4] [4] Tryz.func170 rfl (by simp [Tryz.ntmps170]) rfl rfl (by kernel_rfl) ?_
  simp [hw1, hw2, hw3]
  refine runK_of h ?_
  simp [hw1, hw2, hw3, ← firstI_any q xs 0]
theorem f171 (X : CallRel) (g : FuncId) (h179 : ¬ g = 179) (h180 : ¬ g = 180) (x : Tm) (p : Bool) (hg : Run cfg X g [.agg (Tm.cells x)] m0 (.bool p) m0) :
    Run cfg X 171 [.agg (Tm.cells x), .ptr 0 0] (m1 (.fn (.func g) [] [])) (.bool (!p)) (m1 (.fn (.func g) [] [])) := by
  refine Run.fn [.tmp 3] [4] Tryz.func171 rfl (by simp [Tryz.ntmps171]) rfl rfl (by kernel_rfl) ?_
  simp only [Tm.cells_eq] at hg
  simp [Tm.cells_eq, h179, h180]
  refine runK_of hg ?_
  simp
def fewTm (p : Tm → Bool) (most : Int) (xs : List Tm) : Bool := if (xs.length : Int) ≤ most then xs.all p else false
theorem f102 (X : CallRel) (g : FuncId) (h179 : ¬ g = 179) (h180 : ¬ g = 180) (xs : List Tm) (hlen : xs.length ≤ 9223372036854775807) (most : Int) (p : Tm → Bool) (hg : (xs.length : Int) ≤ most → ∀ x ∈ xs, Run cfg X g [.agg (Tm.cells x)] m0 (.bool (p x)) m0) :
    Run cfg X 102 [.sl (xs.map Tm.cells), .int .i64 most, .fn (.func g) [] []] m0 (.bool (fewTm p most xs)) m0 := by
  refine Run.fn [.tmp 6] [4] Tryz.func102 rfl (by simp [Tryz.ntmps102]) rfl rfl (by kernel_rfl) ?_
  simp
  (first | (refine guardK_true ?_ ?_ <;> intro hg <;> ((have hg0 := hg); (try simp only [decide_eq_true_eq, decide_eq_false_iff_not, Bool.not_eq_true', Bool.not_eq_false', beq_iff_eq, beq_eq_false_iff_ne, bne_iff_ne, ne_eq, bne_eq_false_iff_eq, List.isEmpty_iff, List.isEmpty_eq_false_iff] at hg) <;> (try simp [hg0, hg]) <;> clear hg0) <;> (try (revert hg; intro _))) | (refine guardK_false ?_ ?_ <;> intro hg <;> ((have hg0 := hg); (try simp only [decide_eq_true_eq, decide_eq_false_iff_not, Bool.not_eq_true', Bool.not_eq_false', beq_iff_eq, beq_eq_false_iff_ne, bne_iff_ne, ne_eq, bne_eq_false_iff_eq, List.isEmpty_iff, List.isEmpty_eq_false_iff] at hg) <;> (try simp [hg0, hg]) <;> clear hg0) <;> (try (revert hg; intro _))) | (refine boolK_by ?_ ?_ <;> intro hg <;> ((have hg0 := hg); (try simp only [decide_eq_true_eq, decide_eq_false_iff_not, Bool.not_eq_true', Bool.not_eq_false', beq_iff_eq, beq_eq_false_iff_ne, bne_iff_ne, ne_eq, bne_eq_false_iff_eq, List.isEmpty_iff, List.isEmpty_eq_false_iff] at hg) <;> (try simp [hg0, hg]) <;> clear hg0) <;> (try (revert hg; intro _))))
  · have h := f170 X 171 (.fn (.func g) [] []) rfl rfl (fun _ _ => rfl) (by decide) (by decide) xs hlen (fun x => !p x) fun x hx => f171 X g h179 h180 x (p x) (hg (by assumption) x hx)
    refine runK_of h ?_
    simp [fewTm, *]
    rw [List.any_eq_not_all_not]; simp
  · simp [fewTm, *]
theorem f217 (X : CallRel) (g : FuncId) (w : V) (hw1 : w.ptrs = []) (hw2 : w.tks = []) (hw3 : ∀ p q, w.ren p q = w) (h179 : ¬ g = 179) (h180 : ¬ g = 180) (xs : List Exp) (hlen : xs.length ≤ 9223372036854775807) (q : Exp → Bool)
    (hg : ∀ x ∈ xs, Run cfg X g [.agg (exCells x), .ptr 0 0] (m1 w) (.bool (q x)) (m1 w)) :
    Run cfg X 217 [.sl (xs.map exCells), .fn (.func g) [] [.ptr 0 0]] (m1 w) (.int .i64 (firstI q 0 xs)) (m1 w) := by
  refine Run.fn [.tmp 4] [3] Tryz.func217 rfl (by simp [Tryz.ntmps217]) rfl rfl (by kernel_rfl) ?_
  simp
  refine wp_loop (fun n s => ∃ i : Nat, n = xs.length - i ∧ i ≤ xs.length ∧ firstI q 0 xs = firstI q i (xs.drop i) ∧ s = ⟨[(8, .int .i64 i), (7, .int .i64 xs.length), (0, .sl (xs.map exCells)), (1, .fn (.func g) [] [.ptr 0 0]), (4, .int .i64 0)], m1 w⟩)
    { env := [8, 7, 0, 1, 4] } xs.length ⟨0, by simp, by simp, by simp, by simp [hw1, hw2, hw3]⟩ ?_
  rintro n s ⟨i, rfl, hi, hc, rfl⟩
  by_cases hlt : i < xs.length
  · rw [firstI_drop _ hlt] at hc
    have hm := hg xs[i] (List.getElem_mem hlt)
    simp only [exCells] at hm
    simp [hlt, exCells, h179, h180, hw1, hw2, hw3]
    refine runK_of hm ?_
    simp [hw1, hw2, hw3]
    (first | (refine guardK_true ?_ ?_ <;> intro hg <;> ((have hg0 := hg); (try simp only [decide_eq_true_eq, decide_eq_false_iff_not, Bool.not_eq_true', Bool.not_eq_false', beq_iff_eq, beq_eq_false_iff_ne, bne_iff_ne, ne_eq, bne_eq_false_iff_eq, List.isEmpty_iff, List.isEmpty_eq_false_iff] at hg) <;> (try simp [hg0, hg]) <;> clear hg0) <;> (try (revert hg; intro _))) | (refine guardK_false ?_ ?_ <;> intro hg <;> ((have hg0 := hg); (try simp only [decide_eq_true_eq, decide_eq_false_iff_not, Bool.not_eq_true', Bool.not_eq_false', beq_iff_eq, beq_eq_false_iff_ne, bne_iff_ne, ne_eq, bne_eq_false_iff_eq, List.isEmpty_iff, List.isEmpty_eq_false_iff] at hg) <;> (try simp [hg0, hg]) <;> clear hg0) <;> (try (revert hg; intro _))) | (refine boolK_by ?_ ?_ <;> intro hg <;> ((have hg0 := hg); (try simp only [decide_eq_true_eq, decide_eq_false_iff_not, Bool.not_eq_true', Bool.not_eq_false', beq_iff_eq, beq_eq_false_iff_ne, bne_iff_ne, ne_eq, bne_eq_false_iff_eq, List.isEmpty_iff, List.isEmpty_eq_false_iff] at hg) <;> (try simp [hg0, hg]) <;> clear hg0) <;> (try (revert hg; intro _))))
    · simp [hc, hw1, hw2, hw3, *]
    · refine loopK_back { env := [8, 7, 0, 1, 4] } (xs.length - (i + 1)) (by omega) ⟨i + 1, rfl, by omega, by rw [hc]; simp [*], ?_⟩
      simp [hw1, hw2, hw3, wrap64_id (n := (i : Int) + 1) (by omega) (by omega)]
  · obtain rfl : i = xs.length := by omega
    rw [List.drop_length] at hc
    simp [hc, firstI, hw1, hw2, hw3]
theorem f173 (X : CallRel) (g : FuncId) (w : V) (hw1 : w.ptrs = []) (hw2 : w.tks = []) (hw3 : ∀ p q, w.ren p q = w) (h179 : ¬ g = 179) (h180 : ¬ g = 180) (xs : List Exp) (hlen : xs.length ≤ 9223372036854775807) (q : Exp → Bool)
    (hg : ∀ x ∈ xs, Run cfg X g [.agg (exCells x), .ptr 0 0] (m1 w) (.bool (q x)) (m1 w)) :
    Run cfg X 173 [.sl (xs.map exCells), .fn (.func g) [] [.ptr 0 0]] (m1 w) (.bool (xs.any q)) (m1 w) := by
  have h := f217 X g w hw1 hw2 hw3 h179 h180 xs hlen q hg
  refine Run.fn [.tmp 4] [4] Tryz.func173 rfl (by simp [Tryz.ntmps173]) rfl rfl (by kernel_rfl) ?_
  simp [hw1, hw2, hw3]
  refine runK_of h ?_
  simp [hw1, hw2, hw3, ← firstI_any q xs 0]
theorem f216 (X : CallRel) (g : FuncId) (h179 : ¬ g = 179) (h180 : ¬ g = 180) (x : Exp) (p : Bool) (hg : Run cfg X g [.agg (exCells x)] m0 (.bool p) m0) :
    Run cfg X 216 [.agg (exCells x), .ptr 0 0] (m1 (.fn (.func g) [] [])) (.bool (!p)) (m1 (.fn (.func g) [] [])) := by
  refine Run.fn [.tmp 3] [4] Tryz.func216 rfl (by simp [Tryz.ntmps216]) rfl rfl (by kernel_rfl) ?_
  simp only [exCells] at hg
  simp [exCells, h179, h180]
  refine runK_of hg ?_
  simp
def fewExp (p : Exp → Bool) (most : Int) (xs : List Exp) : Bool := if (xs.length : Int) ≤ most then xs.all p else false
theorem f172 (X : CallRel) (g : FuncId) (h179 : ¬ g = 179) (h180 : ¬ g = 180) (xs : List Exp) (hlen : xs.length ≤ 9223372036854775807) (most : Int) (p : Exp → Bool) (hg : (xs.length : Int) ≤ most → ∀ x ∈ xs, Run cfg X g [.agg (exCells x)] m0 (.bool (p x)) m0) :
    Run cfg X 172 [.sl (xs.map exCells), .int .i64 most, .fn (.func g) [] []] m0 (.bool (fewExp p most xs)) m0 := by
  refine Run.fn [.tmp 6] [4] Tryz.func172 rfl (by simp [Tryz.ntmps172]) rfl rfl (by kernel_rfl) ?_
  simp
  (first | (refine guardK_true ?_ ?_ <;> intro hg <;> ((have hg0 := hg); (try simp only [decide_eq_true_eq, decide_eq_false_iff_not, Bool.not_eq_true', Bool.not_eq_false', beq_iff_eq, beq_eq_false_iff_ne, bne_iff_ne, ne_eq, bne_eq_false_iff_eq, List.isEmpty_iff, List.isEmpty_eq_false_iff] at hg) <;> (try simp [hg0, hg]) <;> clear hg0) <;> (try (revert hg; intro _))) | (refine guardK_false ?_ ?_ <;> intro hg <;> ((have hg0 := hg); (try simp only [decide_eq_true_eq, decide_eq_false_iff_not, Bool.not_eq_true', Bool.not_eq_false', beq_iff_eq, beq_eq_false_iff_ne, bne_iff_ne, ne_eq, bne_eq_false_iff_eq, List.isEmpty_iff, List.isEmpty_eq_false_iff] at hg) <;> (try simp [hg0, hg]) <;> clear hg0) <;> (try (revert hg; intro _))) | (refine boolK_by ?_ ?_ <;> intro hg <;> ((have hg0 := hg); (try simp only [decide_eq_true_eq, decide_eq_false_iff_not, Bool.not_eq_true', Bool.not_eq_false', beq_iff_eq, beq_eq_false_iff_ne, bne_iff_ne, ne_eq, bne_eq_false_iff_eq, List.isEmpty_iff, List.isEmpty_eq_false_iff] at hg) <;> (try simp [hg0, hg]) <;> clear hg0) <;> (try (revert hg; intro _))))
  · have h := f173 X 216 (.fn (.func g) [] []) rfl rfl (fun _ _ => rfl) (by decide) (by decide) xs hlen (fun x => !p x) fun x hx => f216 X g h179 h180 x (p x) (hg (by assumption) x hx)
    refine runK_of h ?_
    simp [fewExp, *]
    rw [List.any_eq_not_all_not]; simp
  · simp [fewExp, *]
theorem f218 (X : CallRel) (g : FuncId) (w : V) (hw1 : w.ptrs = []) (hw2 : w.tks = []) (hw3 : ∀ p q, w.ren p q = w) (h179 : ¬ g = 179) (h180 : ¬ g = 180) (xs : List S) (hlen : xs.length ≤ 9223372036854775807) (q : S → Bool)
    (hg : ∀ x ∈ xs, Run cfg X g [.str (bs x), .ptr 0 0] (m1 w) (.bool (q x)) (m1 w)) :
    Run cfg X 218 [.sl (xs.map fun s => [V.str (bs s)]), .fn (.func g) [] [.ptr 0 0]] (m1 w) (.int .i64 (firstI q 0 xs)) (m1 w) := by
  refine Run.fn [.tmp 4] [3] Tryz.func218 rfl (by simp [Tryz.ntmps218]) rfl rfl (by kernel_rfl) ?_
  simp
  refine wp_loop (fun n s => ∃ i : Nat, n = xs.length - i ∧ i ≤ xs.length ∧ firstI q 0 xs = firstI q i (xs.drop i) ∧ s = ⟨[(8, .int .i64 i), (7, .int .i64 xs.length), (0, .sl (xs.map fun s => [V.str (bs s)])), (1, .fn (.func g) [] [.ptr 0 0]), (4, .int .i64 0)], m1 w⟩)
    { env := [8, 7, 0, 1, 4] } xs.length ⟨0, by simp, by simp, by simp, by simp [hw1, hw2, hw3]⟩ ?_
  rintro n s ⟨i, rfl, hi, hc, rfl⟩
  by_cases hlt : i < xs.length
  · rw [firstI_drop _ hlt] at hc
    have hm := hg xs[i] (List.getElem_mem hlt)
    simp [hlt, h179, h180, hw1, hw2, hw3]
    refine runK_of hm ?_
    simp [hw1, hw2, hw3]
    (first | (refine guardK_true ?_ ?_ <;> intro hg <;> ((have hg0 := hg); (try simp only [decide_eq_true_eq, decide_eq_false_iff_not, Bool.not_eq_true', Bool.not_eq_false', beq_iff_eq, beq_eq_false_iff_ne, bne_iff_ne, ne_eq, bne_eq_false_iff_eq, List.isEmpty_iff, List.isEmpty_eq_false_iff] at hg) <;> (try simp [hg0, hg]) <;> clear hg0) <;> (try (revert hg; intro _))) | (refine guardK_false ?_ ?_ <;> intro hg <;> ((have hg0 := hg); (try simp only [decide_eq_true_eq, decide_eq_false_iff_not, Bool.not_eq_true', Bool.not_eq_false', beq_iff_eq, beq_eq_false_iff_ne, bne_iff_ne, ne_eq, bne_eq_false_iff_eq, List.isEmpty_iff, List.isEmpty_eq_false_iff] at hg) <;> (try simp [hg0, hg]) <;> clear hg0) <;> (try (revert hg; intro _))) | (refine boolK_by ?_ ?_ <;> intro hg <;> ((have hg0 := hg); (try simp only [decide_eq_true_eq, decide_eq_false_iff_not, Bool.not_eq_true', Bool.not_eq_false', beq_iff_eq, beq_eq_false_iff_ne, bne_iff_ne, ne_eq, bne_eq_false_iff_eq, List.isEmpty_iff, List.isEmpty_eq_false_iff] at hg) <;> (try simp [hg0, hg]) <;> clear hg0) <;> (try (revert hg; intro _))))
    · simp [hc, hw1, hw2, hw3, *]
    · refine loopK_back { env := [8, 7, 0, 1, 4] } (xs.length - (i + 1)) (by omega) ⟨i + 1, rfl, by omega, by rw [hc]; simp [*], ?_⟩
      simp [hw1, hw2, hw3, wrap64_id (n := (i : Int) + 1) (by omega) (by omega)]
  · obtain rfl : i = xs.length := by omega
    rw [List.drop_length] at hc
    simp [hc, firstI, hw1, hw2, hw3]
theorem f176 (X : CallRel) (g : FuncId) (w : V) (hw1 : w.ptrs = []) (hw2 : w.tks = []) (hw3 : ∀ p q, w.ren p q = w) (h179 : ¬ g = 179) (h180 : ¬ g = 180) (xs : List S) (hlen : xs.length ≤ 9223372036854775807) (q : S → Bool)
    (hg : ∀ x ∈ xs, Run cfg X g [.str (bs x), .ptr 0 0] (m1 w) (.bool (q x)) (m1 w)) :
    Run cfg X 176 [.sl (xs.map fun s => [V.str (bs s)]), .fn (.func g) [] [.ptr 0 0]] (m1 w) (.bool (xs.any q)) (m1 w) := by
  have h := f218 X g w hw1 hw2 hw3 h179 h180 xs hlen q hg
  refine Run.fn [.tmp 4] [4] Tryz.func176 rfl (by simp [Tryz.ntmps176]) rfl rfl (by kernel_rfl) ?_
  simp [hw1, hw2, hw3]
  refine runK_of h ?_
  simp [hw1, hw2, hw3, ← firstI_any q xs 0]
end Go.Vm

namespace Go.Vm
open Go Go.Proofs
/-- What is asked of the library for names. -/
structure LibNm (X : CallRel) : Prop where
  compact : ∀ l : List S, l.length ≤ 1000000 → Run cfg X 180 [.osl 0] ⟨[], [.live 9 1 (strs l)], [], []⟩ (.sl (strs (Lib.compact l))) m0
def varsT : List Tm → List S
  | [] => []
  | t :: r => if t.kind = 1 then t.s :: varsT r else varsT r
def varsP : List Pd → List S
  | [] => []
  | p :: r => varsT p.terms ++ varsP r
theorem varsT_drop {l : List Tm} {i : Nat} (h : i < l.length) : varsT (l.drop i) = if l[i].kind = 1 then l[i].s :: varsT (l.drop (i + 1)) else varsT (l.drop (i + 1)) := by
  rw [List.drop_eq_getElem_cons h]; rfl
theorem varsP_drop {l : List Pd} {i : Nat} (h : i < l.length) : varsP (l.drop i) = varsT l[i].terms ++ varsP (l.drop (i + 1)) := by
  rw [List.drop_eq_getElem_cons h]; rfl
def namesP (l : List Pd) : List S := Lib.compact (sortS (varsP l))
@[simp] theorem strs_nil : strs [] = [] := rfl
@[simp] theorem strs_snoc (l : List S) (s : S) : strs l ++ [[.str (bs s)]] = strs (l ++ [s]) := by simp [strs]
@[simp] theorem strs_len (l : List S) : (strs l).length = l.length := by simp [strs]
theorem sortS_len (l : List S) : (sortS l).length = l.length := by simp [sortS]
theorem f105 (X : CallRel) (hX : LibNm X) (ps : List Pd) (hlen : ps.length ≤ 9223372036854775807) (hts : ∀ p ∈ ps, p.terms.length ≤ 9223372036854775807) (hb : (varsP ps).length ≤ 1000000) :
    Run cfg X 105 [.sl (ps.map Pd.cells)] m0 (.sl (strs (namesP ps))) m0 := by
  refine Run.fn [.tmp 2] [131] Tryz.func105 rfl (by simp [Tryz.ntmps105]) rfl rfl (by kernel_rfl) ?_
  simp
  refine wp_loop (fun n s => ∃ i : Nat, n = ps.length - i ∧ i ≤ ps.length ∧ ∃ o : List S, o ++ varsP (ps.drop i) = varsP ps ∧
      s = ⟨[(10, .int .i64 i), (9, .int .i64 ps.length), (8, .sl (ps.map Pd.cells)), (3, .osl 0)], ⟨[], [.live 9 1 (strs o)], [], []⟩⟩)
    { env := [10, 9, 8, 3], nils := [(3, 9, 1)] } ps.length ⟨0, by simp, by simp, [], by simp, by simp⟩ ?_
  rintro n s ⟨i, rfl, hi, o, ho, rfl⟩
  by_cases hlt : i < ps.length
  · rw [varsP_drop hlt] at ho
    simp [hlt, Pd.cells]
    refine wp_loop (fun n s => ∃ j : Nat, n = ps[i].terms.length - j ∧ j ≤ ps[i].terms.length ∧ ∃ o : List S, o ++ (varsT (ps[i].terms.drop j) ++ varsP (ps.drop (i + 1))) = varsP ps ∧
        s = ⟨[(17, .int .i64 j), (16, .int .i64 ps[i].terms.length), (15, .sl (ps[i].terms.map Tm.cells)), (10, .int .i64 i), (9, .int .i64 ps.length), (8, .sl (ps.map Pd.cells)), (3, .osl 0)], ⟨[], [.live 9 1 (strs o)], [], []⟩⟩)
      { env := [17, 16, 15, 10, 9, 8, 3] } ps[i].terms.length ⟨0, by simp, by simp, o, by simpa using ho, by simp⟩ ?_
    clear ho o
    rintro n s ⟨j, rfl, hj, o, ho, rfl⟩
    have htl := hts ps[i] (List.getElem_mem hlt)
    by_cases hjlt : j < ps[i].terms.length
    · rw [varsT_drop hjlt] at ho
      simp [hjlt, Tm.cells_eq]
      have hbk : IntKind.i64.wrap ((j : Int) + 1) = (j : Int) + 1 := wrap64_id (by omega) (by omega)
      have hol : o.length ≤ 1000000 := by
        have := congrArg List.length ho
        simp only [List.length_append] at this
        omega
      (first | (refine guardK_true ?_ ?_ <;> intro hg <;> ((have hg0 := hg); (try simp only [decide_eq_true_eq, decide_eq_false_iff_not, Bool.not_eq_true', Bool.not_eq_false', beq_iff_eq, beq_eq_false_iff_ne, bne_iff_ne, ne_eq, bne_eq_false_iff_eq, List.isEmpty_iff, List.isEmpty_eq_false_iff] at hg) <;> (try simp [hg0, hg]) <;> clear hg0) <;> (try (revert hg; intro _))) | (refine guardK_false ?_ ?_ <;> intro hg <;> ((have hg0 := hg); (try simp only [decide_eq_true_eq, decide_eq_false_iff_not, Bool.not_eq_true', Bool.not_eq_false', beq_iff_eq, beq_eq_false_iff_ne, bne_iff_ne, ne_eq, bne_eq_false_iff_eq, List.isEmpty_iff, List.isEmpty_eq_false_iff] at hg) <;> (try simp [hg0, hg]) <;> clear hg0) <;> (try (revert hg; intro _))) | (refine boolK_by ?_ ?_ <;> intro hg <;> ((have hg0 := hg); (try simp only [decide_eq_true_eq, decide_eq_false_iff_not, Bool.not_eq_true', Bool.not_eq_false', beq_iff_eq, beq_eq_false_iff_ne, bne_iff_ne, ne_eq, bne_eq_false_iff_eq, List.isEmpty_iff, List.isEmpty_eq_false_iff] at hg) <;> (try simp [hg0, hg]) <;> clear hg0) <;> (try (revert hg; intro _))))
      · refine ⟨⟨by simp [allLen], by simp [roomy]; omega, by omega⟩, loopK_back { env := [17, 16, 15, 10, 9, 8, 3] } (ps[i].terms.length - (j + 1)) (by omega) ⟨j + 1, rfl, by omega, o ++ [ps[i].terms[j].s], by rw [← ho]; simp [*], ?_⟩⟩
        simp [hbk]
      · refine loopK_back { env := [17, 16, 15, 10, 9, 8, 3] } (ps[i].terms.length - (j + 1)) (by omega) ⟨j + 1, rfl, by omega, o, by rw [← ho]; simp [*], ?_⟩
        simp [hbk]
    · obtain rfl : j = ps[i].terms.length := by omega
      simp at ho
      simp [varsT] at ho ⊢
      refine loopK_back { env := [10, 9, 8, 3] } (ps.length - (i + 1)) (by omega) ⟨i + 1, rfl, by omega, o, ho, ?_⟩
      simp [wrap64_id (n := (i : Int) + 1) (by omega) (by omega)]
  · obtain rfl : i = ps.length := by omega
    simp [varsP] at ho
    subst ho
    simp
    refine ipK_of (xs := strs (varsP ps)) (ys := strs (sortS (varsP ps))) rfl ⟨rfl, rfl, varsP ps, by omega, rfl, rfl⟩ ?_
    simp
    refine runK_of (hX.compact (sortS (varsP ps)) (by rw [sortS_len]; exact hb)) ?_
    simp [namesP]
end Go.Vm

namespace Go.Vm
open Go Go.Proofs
def varsO : List OpT → List S
  | [] => []
  | o :: r => if o.kind = 1 then if o.term.kind = 1 then o.term.s :: varsO r else varsO r else varsO r
theorem varsO_drop {l : List OpT} {i : Nat} (h : i < l.length) : varsO (l.drop i) = if l[i].kind = 1 then if l[i].term.kind = 1 then l[i].term.s :: varsO (l.drop (i + 1)) else varsO (l.drop (i + 1)) else varsO (l.drop (i + 1)) := by
  rw [List.drop_eq_getElem_cons h]; rfl
theorem varsO_len : ∀ l : List OpT, (varsO l).length ≤ l.length
  | [] => by simp [varsO]
  | o :: r => by
    have := varsO_len r
    simp only [varsO]
    repeat' split
    all_goals simp only [List.length_cons]; omega
def namesO (l : List OpT) : List S := Lib.compact (sortS (varsO l))
theorem f175 (X : CallRel) (hX : LibNm X) (l : List OpT) (hsm : ∀ o ∈ l, o.term.small) (hm : mayE l = true) :
    Run cfg X 175 [.agg [.sl (l.map OpT.cells)]] m0 (.sl (strs (namesO l))) m0 := by
  have hlen : l.length ≤ 1000 := by
    unfold mayE at hm
    split at hm
    · omega
    · cases hm
  refine Run.fn [.tmp 2] [131] Tryz.func175 rfl (by simp [Tryz.ntmps175]) rfl rfl (by kernel_rfl) ?_
  simp
  refine runK_of (f38 X l hsm) ?_
  simp [hm]
  refine wp_loop (fun n s => ∃ i : Nat, n = l.length - i ∧ i ≤ l.length ∧ ∃ o : List S, o ++ varsO (l.drop i) = varsO l ∧
      s = ⟨[(12, .int .i64 i), (11, .int .i64 l.length), (10, .sl (l.map OpT.cells)), (3, .osl 0)], ⟨[], [.live 9 1 (strs o)], [], []⟩⟩)
    { env := [12, 11, 10, 3], nils := [(3, 9, 1)] } l.length ⟨0, by simp, by simp, [], by simp, by simp⟩ ?_
  rintro n s ⟨i, rfl, hi, o, ho, rfl⟩
  by_cases hlt : i < l.length
  · rw [varsO_drop hlt] at ho
    have hbk : IntKind.i64.wrap ((i : Int) + 1) = (i : Int) + 1 := wrap64_id (by omega) (by omega)
    have hol : o.length ≤ 1000 := by
      have := congrArg List.length ho
      have := varsO_len l
      simp only [List.length_append] at *
      omega
    simp [hlt, OpT.cells]
    (first | (refine guardK_true ?_ ?_ <;> intro hg <;> ((have hg0 := hg); (try simp only [decide_eq_true_eq, decide_eq_false_iff_not, Bool.not_eq_true', Bool.not_eq_false', beq_iff_eq, beq_eq_false_iff_ne, bne_iff_ne, ne_eq, bne_eq_false_iff_eq, List.isEmpty_iff, List.isEmpty_eq_false_iff] at hg) <;> (try simp [hg0, hg]) <;> clear hg0) <;> (try (revert hg; intro _))) | (refine guardK_false ?_ ?_ <;> intro hg <;> ((have hg0 := hg); (try simp only [decide_eq_true_eq, decide_eq_false_iff_not, Bool.not_eq_true', Bool.not_eq_false', beq_iff_eq, beq_eq_false_iff_ne, bne_iff_ne, ne_eq, bne_eq_false_iff_eq, List.isEmpty_iff, List.isEmpty_eq_false_iff] at hg) <;> (try simp [hg0, hg]) <;> clear hg0) <;> (try (revert hg; intro _))) | (refine boolK_by ?_ ?_ <;> intro hg <;> ((have hg0 := hg); (try simp only [decide_eq_true_eq, decide_eq_false_iff_not, Bool.not_eq_true', Bool.not_eq_false', beq_iff_eq, beq_eq_false_iff_ne, bne_iff_ne, ne_eq, bne_eq_false_iff_eq, List.isEmpty_iff, List.isEmpty_eq_false_iff] at hg) <;> (try simp [hg0, hg]) <;> clear hg0) <;> (try (revert hg; intro _))))
    · (first | (refine guardK_true ?_ ?_ <;> intro hg <;> ((have hg0 := hg); (try simp only [decide_eq_true_eq, decide_eq_false_iff_not, Bool.not_eq_true', Bool.not_eq_false', beq_iff_eq, beq_eq_false_iff_ne, bne_iff_ne, ne_eq, bne_eq_false_iff_eq, List.isEmpty_iff, List.isEmpty_eq_false_iff] at hg) <;> (try simp [hg0, hg]) <;> clear hg0) <;> (try (revert hg; intro _))) | (refine guardK_false ?_ ?_ <;> intro hg <;> ((have hg0 := hg); (try simp only [decide_eq_true_eq, decide_eq_false_iff_not, Bool.not_eq_true', Bool.not_eq_false', beq_iff_eq, beq_eq_false_iff_ne, bne_iff_ne, ne_eq, bne_eq_false_iff_eq, List.isEmpty_iff, List.isEmpty_eq_false_iff] at hg) <;> (try simp [hg0, hg]) <;> clear hg0) <;> (try (revert hg; intro _))) | (refine boolK_by ?_ ?_ <;> intro hg <;> ((have hg0 := hg); (try simp only [decide_eq_true_eq, decide_eq_false_iff_not, Bool.not_eq_true', Bool.not_eq_false', beq_iff_eq, beq_eq_false_iff_ne, bne_iff_ne, ne_eq, bne_eq_false_iff_eq, List.isEmpty_iff, List.isEmpty_eq_false_iff] at hg) <;> (try simp [hg0, hg]) <;> clear hg0) <;> (try (revert hg; intro _))))
      · refine ⟨⟨by simp [allLen], by simp [roomy]; omega, by omega⟩, loopK_back { env := [12, 11, 10, 3] } (l.length - (i + 1)) (by omega) ⟨i + 1, rfl, by omega, o ++ [l[i].term.s], by rw [← ho]; simp [*], ?_⟩⟩
        simp [hbk]
      · refine loopK_back { env := [12, 11, 10, 3] } (l.length - (i + 1)) (by omega) ⟨i + 1, rfl, by omega, o, by rw [← ho]; simp [*], ?_⟩
        simp [hbk]
    · refine loopK_back { env := [12, 11, 10, 3] } (l.length - (i + 1)) (by omega) ⟨i + 1, rfl, by omega, o, by rw [← ho]; simp [*], ?_⟩
      simp [hbk]
  · obtain rfl : i = l.length := by omega
    simp [varsO] at ho
    subst ho
    simp
    have hvl := varsO_len l
    refine ipK_of (xs := strs (varsO l)) (ys := strs (sortS (varsO l))) rfl ⟨rfl, rfl, varsO l, by omega, rfl, rfl⟩ ?_
    simp
    refine runK_of (hX.compact (sortS (varsO l)) (by rw [sortS_len]; omega)) ?_
    simp [namesO]
theorem f250' (X : CallRel) (a : S) : Run cfg X 250 [.str (bs a)] m0 (.bool false) m0 := by
  refine Run.fn [.tmp 2] [4] Tryz.func250 rfl (by simp [Tryz.ntmps250]) rfl rfl (by kernel_rfl) ?_
  simp
theorem f220 (X : CallRel) (a : S) : Run cfg X 220 [.str (bs a)] m0 (.bool false) m0 := by
  refine Run.fn [.tmp 2] [4] Tryz.func220 rfl (by simp [Tryz.ntmps220]) rfl rfl (by kernel_rfl) ?_
  simp
theorem f219 (X : CallRel) (a b : S) : Run cfg X 219 [.str (bs a), .str (bs b)] m0 (.bool (decide (a < b))) m0 := by
  refine Run.fn [.tmp 4] [4] Tryz.func219 rfl (by simp [Tryz.ntmps219]) rfl rfl (by kernel_rfl) ?_
  simp
  refine runK_of (f250' X a) ?_
  simp [Go.Proofs.bytesLess_eq]
theorem strs_at (l : List S) (i : Nat) (h : i < l.length) : (strs l)[i]? = some [.str (bs l[i])] := by simp [strs, h]
theorem half (i j : Nat) (h : i + j ≤ 4000000) : IntKind.i64.wrap ((IntKind.u64.wrap (IntKind.i64.wrap ((i : Int) + j))).fdiv (2 ^ min 1 IntKind.u64.bits)) = (((i + j) / 2 : Nat) : Int) := by
  have e1 : IntKind.i64.wrap ((i : Int) + j) = (i : Int) + j := wrap64_id (by omega) (by omega)
  have e2 : IntKind.u64.wrap ((i : Int) + j) = (i : Int) + j := Go.IntWalk.u64_in _ ⟨by omega, by omega⟩
  have e3 : min 1 IntKind.u64.bits = 1 := by kernel_rfl
  rw [e1, e2, e3]
  have e4 : ((i : Int) + j).fdiv (2 ^ 1) = (((i + j) / 2 : Nat) : Int) := by
    rw [Int.fdiv_eq_ediv_of_nonneg _ (by decide)]
    omega
  rw [e4]
  exact wrap64_id (by omega) (by omega)
theorem f178 (X : CallRel) (l : List S) (s : S) (hlen : l.length ≤ 1000000) (hso : ∀ (i j : Nat) (hij : i < j) (hj : j < l.length), l[i]'(by omega) < l[j]) : ∃ i : Int,
    Run cfg X 178 [.sl (strs l), .str (bs s)] m0 (.tuple [.int .i64 i, .bool (decide (s ∈ l))]) m0 := by
  have irr : ∀ a : S, ¬ a < a := fun a h => List.lt_irrefl a h
  have tr : ∀ a b c : S, a < b → b < c → a < c := fun a b c h k => List.lt_trans h k
  -- where it would stand
  have key : ∃ p : Nat, p ≤ l.length ∧ (∀ (k : Nat) (hk : k < l.length), k < p → l[k] < s) ∧ ∀ (k : Nat) (hk : k < l.length), p ≤ k → ¬ l[k] < s := by
    clear hlen
    have : ∀ m, m ≤ l.length → (∃ p : Nat, p ≤ m ∧ (∀ (k : Nat) (hk : k < l.length), k < p → l[k] < s) ∧ ∀ (k : Nat) (hk : k < l.length), p ≤ k → k < m → ¬ l[k] < s) := by
      intro m
      induction m with
      | zero => exact fun _ => ⟨0, Nat.le_refl _, fun k _ h => by omega, fun k _ _ h => by omega⟩
      | succ m ih =>
        intro hm
        obtain ⟨p, p1, p2, p3⟩ := ih (by omega)
        by_cases hlt : l[m]'(by omega) < s
        · refine ⟨m + 1, Nat.le_refl _, fun k hk h => ?_, fun k _ _ _ => by omega⟩
          by_cases hkm : k = m
          · subst hkm; exact hlt
          · exact tr _ _ _ (hso k m (by omega) (by omega)) hlt
        · refine ⟨p, by omega, p2, fun k hk h1 h2 => ?_⟩
          by_cases hkm : k = m
          · subst hkm; exact hlt
          · exact p3 k hk h1 (by omega)
    obtain ⟨p, p1, p2, p3⟩ := this l.length (Nat.le_refl _)
    exact ⟨p, p1, p2, fun k hk h => p3 k hk h hk⟩
  obtain ⟨p, hp, lo, hi⟩ := key
  refine ⟨p, ?_⟩
  refine Run.fn [.tmp 4, .tmp 5] [3, 4] Tryz.func178 rfl (by simp [Tryz.ntmps178]) rfl rfl (by kernel_rfl) ?_
  simp
  refine wp_loop (fun n st => ∃ i j : Nat, n = j - i ∧ i ≤ p ∧ p ≤ j ∧ j ≤ l.length ∧
      st = ⟨[(7, .int .i64 i), (8, .int .i64 j), (6, .int .i64 l.length), (0, .sl (strs l)), (1, .str (bs s))], m0⟩)
    { env := [7, 8, 6, 0, 1] } l.length ⟨0, l.length, by simp, by simp, hp, by simp, by simp⟩ ?_
  rintro n st ⟨i, j, rfl, hip, hpj, hj, rfl⟩
  by_cases hlt : i < j
  · have hh : (i + j) / 2 < l.length := by omega
    have h0 : ((i : Int) + j) / 2 < l.length := by omega
    have h00 : (0 : Int) ≤ ((i : Int) + j) / 2 := by omega
    have h2 : (((i : Int) + j) / 2).toNat = (i + j) / 2 := by omega
    simp [hlt, half i j (by omega), strs_at _ _ hh, h0, h00, h2]
    refine runK_of (f219 X _ _) ?_
    simp
    have hw : IntKind.i64.wrap (((i : Int) + j) / 2 + 1) = ((i : Int) + j) / 2 + 1 := wrap64_id (by omega) (by omega)
    (first | (refine guardK_true ?_ ?_ <;> intro hg <;> ((have hg0 := hg); (try simp only [decide_eq_true_eq, decide_eq_false_iff_not, Bool.not_eq_true', Bool.not_eq_false', beq_iff_eq, beq_eq_false_iff_ne, bne_iff_ne, ne_eq, bne_eq_false_iff_eq, List.isEmpty_iff, List.isEmpty_eq_false_iff] at hg) <;> (try simp [hg0, hg]) <;> clear hg0) <;> (try (revert hg; intro _))) | (refine guardK_false ?_ ?_ <;> intro hg <;> ((have hg0 := hg); (try simp only [decide_eq_true_eq, decide_eq_false_iff_not, Bool.not_eq_true', Bool.not_eq_false', beq_iff_eq, beq_eq_false_iff_ne, bne_iff_ne, ne_eq, bne_eq_false_iff_eq, List.isEmpty_iff, List.isEmpty_eq_false_iff] at hg) <;> (try simp [hg0, hg]) <;> clear hg0) <;> (try (revert hg; intro _))) | (refine boolK_by ?_ ?_ <;> intro hg <;> ((have hg0 := hg); (try simp only [decide_eq_true_eq, decide_eq_false_iff_not, Bool.not_eq_true', Bool.not_eq_false', beq_iff_eq, beq_eq_false_iff_ne, bne_iff_ne, ne_eq, bne_eq_false_iff_eq, List.isEmpty_iff, List.isEmpty_eq_false_iff] at hg) <;> (try simp [hg0, hg]) <;> clear hg0) <;> (try (revert hg; intro _))))
    · rename_i hl
      refine loopK_back { env := [7, 8, 6, 0, 1] } (j - ((i + j) / 2 + 1)) (by omega) ⟨(i + j) / 2 + 1, j, rfl, ?_, hpj, hj, ?_⟩
      · by_cases hq : p ≤ (i + j) / 2
        · exact absurd hl (hi _ hh hq)
        · omega
      · simp [hw]
    · rename_i hl
      refine loopK_back { env := [7, 8, 6, 0, 1] } ((i + j) / 2 - i) (by omega) ⟨i, (i + j) / 2, rfl, hip, ?_, by omega, ?_⟩
      · by_cases hq : p ≤ (i + j) / 2
        · exact hq
        · exact absurd (lo _ hh (by omega)) (by simpa using hl)
      · simp
  · obtain rfl : i = p := by omega
    obtain rfl : j = i := by omega
    have mem : s ∈ l ↔ ∃ h : j < l.length, l[j] = s := by
      constructor
      · intro hm
        obtain ⟨k, hk, he⟩ := List.getElem_of_mem hm
        have h1 : ¬ k < j := fun h => irr s (by have := lo k hk h; rwa [he] at this)
        by_cases h2 : k = j
        · subst h2; exact ⟨hk, he⟩
        · exact absurd (by have := hso j k (by omega) hk; rwa [he] at this) (hi _ _ (Nat.le_refl _))
      · rintro ⟨h, rfl⟩
        exact List.getElem_mem h
    simp
    (first | (refine guardK_true ?_ ?_ <;> intro hg <;> ((have hg0 := hg); (try simp only [decide_eq_true_eq, decide_eq_false_iff_not, Bool.not_eq_true', Bool.not_eq_false', beq_iff_eq, beq_eq_false_iff_ne, bne_iff_ne, ne_eq, bne_eq_false_iff_eq, List.isEmpty_iff, List.isEmpty_eq_false_iff] at hg) <;> (try simp [hg0, hg]) <;> clear hg0) <;> (try (revert hg; intro _))) | (refine guardK_false ?_ ?_ <;> intro hg <;> ((have hg0 := hg); (try simp only [decide_eq_true_eq, decide_eq_false_iff_not, Bool.not_eq_true', Bool.not_eq_false', beq_iff_eq, beq_eq_false_iff_ne, bne_iff_ne, ne_eq, bne_eq_false_iff_eq, List.isEmpty_iff, List.isEmpty_eq_false_iff] at hg) <;> (try simp [hg0, hg]) <;> clear hg0) <;> (try (revert hg; intro _))) | (refine boolK_by ?_ ?_ <;> intro hg <;> ((have hg0 := hg); (try simp only [decide_eq_true_eq, decide_eq_false_iff_not, Bool.not_eq_true', Bool.not_eq_false', beq_iff_eq, beq_eq_false_iff_ne, bne_iff_ne, ne_eq, bne_eq_false_iff_eq, List.isEmpty_iff, List.isEmpty_eq_false_iff] at hg) <;> (try simp [hg0, hg]) <;> clear hg0) <;> (try (revert hg; intro _))))
    · rename_i h
      simp [strs]
      (first | (refine guardK_true ?_ ?_ <;> intro hg <;> ((have hg0 := hg); (try simp only [decide_eq_true_eq, decide_eq_false_iff_not, Bool.not_eq_true', Bool.not_eq_false', beq_iff_eq, beq_eq_false_iff_ne, bne_iff_ne, ne_eq, bne_eq_false_iff_eq, List.isEmpty_iff, List.isEmpty_eq_false_iff] at hg) <;> (try simp [hg0, hg]) <;> clear hg0) <;> (try (revert hg; intro _))) | (refine guardK_false ?_ ?_ <;> intro hg <;> ((have hg0 := hg); (try simp only [decide_eq_true_eq, decide_eq_false_iff_not, Bool.not_eq_true', Bool.not_eq_false', beq_iff_eq, beq_eq_false_iff_ne, bne_iff_ne, ne_eq, bne_eq_false_iff_eq, List.isEmpty_iff, List.isEmpty_eq_false_iff] at hg) <;> (try simp [hg0, hg]) <;> clear hg0) <;> (try (revert hg; intro _))) | (refine boolK_by ?_ ?_ <;> intro hg <;> ((have hg0 := hg); (try simp only [decide_eq_true_eq, decide_eq_false_iff_not, Bool.not_eq_true', Bool.not_eq_false', beq_iff_eq, beq_eq_false_iff_ne, bne_iff_ne, ne_eq, bne_eq_false_iff_eq, List.isEmpty_iff, List.isEmpty_eq_false_iff] at hg) <;> (try simp [hg0, hg]) <;> clear hg0) <;> (try (revert hg; intro _))))
      · simp [mem, *]
      · simp [h]
        refine runK_of (f220 X _) ?_
        have hne : ¬ l[j] = s := by assumption
        simp [mem, *]
    · rename_i h
      simp [mem, *]
theorem f177 (X : CallRel) (l : List S) (s : S) (hlen : l.length ≤ 1000000) (hso : ∀ (i j : Nat) (hij : i < j) (hj : j < l.length), l[i]'(by omega) < l[j]) :
    Run cfg X 177 [.str (bs s), .ptr 0 0] (m1 (.sl (strs l))) (.bool (!decide (s ∈ l))) (m1 (.sl (strs l))) := by
  obtain ⟨i, h⟩ := f178 X l s hlen hso
  refine Run.fn [.tmp 3] [4] Tryz.func177 rfl (by simp [Tryz.ntmps177]) rfl rfl (by kernel_rfl) ?_
  simp
  refine runK_of h ?_
  simp
def knownR (a l : List S) : Bool := a.all fun s => decide (s ∈ l)
theorem f104 (X : CallRel) (a l : List S) (ha : a.length ≤ 1000000) (hlen : l.length ≤ 1000000) (hso : ∀ (i j : Nat) (hij : i < j) (hj : j < l.length), l[i]'(by omega) < l[j]) :
    Run cfg X 104 [.sl (strs a), .sl (strs l)] m0 (.bool (knownR a l)) m0 := by
  have h := f176 X 177 (.sl (strs l)) rfl rfl (fun _ _ => rfl) (by decide) (by decide) a (by omega) (fun s => !decide (s ∈ l)) fun s _ => f177 X l s hlen hso
  refine Run.fn [.tmp 4] [4] Tryz.func104 rfl (by simp [Tryz.ntmps104]) rfl rfl (by kernel_rfl) ?_
  simp
  refine runK_of h ?_
  simp [knownR, List.any_eq_not_all_not]
end Go.Vm

namespace Go.Vm
open Go Go.Proofs
def withR (n : S) : List S → List S
  | [] => [n]
  | x :: r => if x < n then x :: withR n r else if x = n then x :: r else n :: x :: r
def foundW (n : S) : List S → Bool
  | [] => false
  | x :: r => if x < n then foundW n r else decide (x = n)
theorem withR_drop (n : S) {l : List S} {i : Nat} (h : i < l.length) : withR n (l.drop i) = if l[i] < n then l[i] :: withR n (l.drop (i + 1)) else if l[i] = n then l[i] :: l.drop (i + 1) else n :: l[i] :: l.drop (i + 1) := by
  rw [List.drop_eq_getElem_cons h]; rfl
theorem foundW_drop (n : S) {l : List S} {i : Nat} (h : i < l.length) : foundW n (l.drop i) = if l[i] < n then foundW n (l.drop (i + 1)) else decide (l[i] = n) := by
  rw [List.drop_eq_getElem_cons h]; rfl
theorem withR_len (n : S) : ∀ l : List S, (withR n l).length ≤ l.length + 1
  | [] => by simp [withR]
  | x :: r => by
    have := withR_len n r
    simp only [withR]
    repeat' split
    all_goals simp only [List.length_cons]; omega
theorem withR_found (n : S) : ∀ l : List S, foundW n l = true → withR n l = l
  | [], h => by simp [foundW] at h
  | x :: r, h => by
    simp only [foundW] at h
    simp only [withR]
    split at h
    · rename_i hx
      rw [if_pos hx, withR_found n r h]
    · rename_i hx
      rw [if_neg hx, if_pos (by simpa using h)]
theorem strs_get (l : List S) (i : Nat) (h : i < (strs l).length) : (strs l)[i] = [.str (bs (l[i]'(by simpa using h)))] := by simp [strs]
theorem take_strs (l : List S) (k : Nat) : (strs l).take k = strs (l.take k) := by simp [strs, List.map_take]
theorem drop_strs (l : List S) (k : Nat) : (strs l).drop k = strs (l.drop k) := by simp [strs, List.map_drop]
theorem append_strs (a b : List S) : strs a ++ strs b = strs (a ++ b) := by simp [strs]
@[simp] theorem allLen_strs (l : List S) : allLen (strs l) 1 := fun x hx => by
  obtain ⟨t, _, rfl⟩ := List.mem_map.1 hx
  rfl
def wV (n : S) (l : List S) : V := if foundW n l = true then .sl (strs l) else .osl 0
def wM (n : S) (l : List S) : Mem := if foundW n l = true then m0 else ⟨[], [.live 9 1 (strs (withR n l))], [], []⟩
theorem f157 (X : CallRel) (l : List S) (n : S) (hl : l.length ≤ 1000000) : Run cfg X 157 [.sl (strs l), .str (bs n)] m0 (wV n l) (wM n l) := by
  refine Run.fn [.tmp 4] [131] Tryz.func157 rfl (by simp [Tryz.ntmps157]) rfl rfl (by kernel_rfl) ?_
  simp
  refine wp_loop (fun k st => ∃ i : Nat, k = l.length - i ∧ i ≤ l.length ∧ withR n l = l.take i ++ withR n (l.drop i) ∧ foundW n l = foundW n (l.drop i) ∧
      st = ⟨[(5, .int .i64 i), (0, .sl (strs l)), (1, .str (bs n))], m0⟩)
    { env := [5, 0, 1] } l.length ⟨0, by simp, by simp, by simp, by simp, by simp⟩ ?_
  rintro k st ⟨i, rfl, hi, hc, hf, rfl⟩
  by_cases hlt : i < l.length
  · rw [withR_drop n hlt] at hc
    rw [foundW_drop n hlt] at hf
    simp [hlt, strs, Go.Proofs.bytesLess_eq]
    (first | (refine guardK_true ?_ ?_ <;> intro hg <;> ((have hg0 := hg); (try simp only [decide_eq_true_eq, decide_eq_false_iff_not, Bool.not_eq_true', Bool.not_eq_false', beq_iff_eq, beq_eq_false_iff_ne, bne_iff_ne, ne_eq, bne_eq_false_iff_eq, List.isEmpty_iff, List.isEmpty_eq_false_iff] at hg) <;> (try simp [hg0, hg]) <;> clear hg0) <;> (try (revert hg; intro _))) | (refine guardK_false ?_ ?_ <;> intro hg <;> ((have hg0 := hg); (try simp only [decide_eq_true_eq, decide_eq_false_iff_not, Bool.not_eq_true', Bool.not_eq_false', beq_iff_eq, beq_eq_false_iff_ne, bne_iff_ne, ne_eq, bne_eq_false_iff_eq, List.isEmpty_iff, List.isEmpty_eq_false_iff] at hg) <;> (try simp [hg0, hg]) <;> clear hg0) <;> (try (revert hg; intro _))) | (refine boolK_by ?_ ?_ <;> intro hg <;> ((have hg0 := hg); (try simp only [decide_eq_true_eq, decide_eq_false_iff_not, Bool.not_eq_true', Bool.not_eq_false', beq_iff_eq, beq_eq_false_iff_ne, bne_iff_ne, ne_eq, bne_eq_false_iff_eq, List.isEmpty_iff, List.isEmpty_eq_false_iff] at hg) <;> (try simp [hg0, hg]) <;> clear hg0) <;> (try (revert hg; intro _))))
    · refine loopK_back { env := [5, 0, 1] } (l.length - (i + 1)) (by omega) ⟨i + 1, rfl, by omega, ?_, ?_, ?_⟩
      · have e : l.take (i + 1) = l.take i ++ [l[i]] := by rw [List.take_add_one, List.getElem?_eq_getElem hlt]; rfl
        rw [hc, if_pos (by assumption), e, List.append_assoc]
        rfl
      · rw [hf, if_pos (by assumption)]
      · simp [strs, wrap64_id (n := (i : Int) + 1) (by omega) (by omega)]
    · simp [hlt]
      (first | (refine guardK_true ?_ ?_ <;> intro hg <;> ((have hg0 := hg); (try simp only [decide_eq_true_eq, decide_eq_false_iff_not, Bool.not_eq_true', Bool.not_eq_false', beq_iff_eq, beq_eq_false_iff_ne, bne_iff_ne, ne_eq, bne_eq_false_iff_eq, List.isEmpty_iff, List.isEmpty_eq_false_iff] at hg) <;> (try simp [hg0, hg]) <;> clear hg0) <;> (try (revert hg; intro _))) | (refine guardK_false ?_ ?_ <;> intro hg <;> ((have hg0 := hg); (try simp only [decide_eq_true_eq, decide_eq_false_iff_not, Bool.not_eq_true', Bool.not_eq_false', beq_iff_eq, beq_eq_false_iff_ne, bne_iff_ne, ne_eq, bne_eq_false_iff_eq, List.isEmpty_iff, List.isEmpty_eq_false_iff] at hg) <;> (try simp [hg0, hg]) <;> clear hg0) <;> (try (revert hg; intro _))) | (refine boolK_by ?_ ?_ <;> intro hg <;> ((have hg0 := hg); (try simp only [decide_eq_true_eq, decide_eq_false_iff_not, Bool.not_eq_true', Bool.not_eq_false', beq_iff_eq, beq_eq_false_iff_ne, bne_iff_ne, ne_eq, bne_eq_false_iff_eq, List.isEmpty_iff, List.isEmpty_eq_false_iff] at hg) <;> (try simp [hg0, hg]) <;> clear hg0) <;> (try (revert hg; intro _))))
      · rw [if_neg (by assumption)] at hf
        have hf' : foundW n l = true := by simp [hf, *]
        simp [wV, wM, hf', strs]
      · rw [if_neg (by assumption)] at hf
        have hf' : foundW n l = false := by simp [hf, *]
        have hs : withR n l = l.take i ++ [n] ++ l.drop i := by
          rw [hc, if_neg (by assumption), if_neg (by assumption), List.drop_eq_getElem_cons hlt]
          simp
        have hal : allLen (List.map (fun s => [V.str (bs s)]) l) 1 := allLen_strs l
        simp [wV, wM, hf', hs]
        refine ⟨⟨hi, hal⟩, ⟨fun x hx => hal x (List.mem_of_mem_take hx), by simp [roomy]; omega, by omega⟩, ⟨by simp [allLen], by simp [roomy]; omega, by omega⟩, ⟨hi, hal⟩, ⟨fun x hx => hal x (List.mem_of_mem_take (List.mem_of_mem_drop hx)), by simp [roomy]; omega, by omega⟩, by kernel_rfl, ?_⟩
        have e : List.take l.length (List.map (fun s => [V.str (bs s)]) l) = List.map (fun s => [V.str (bs s)]) l := List.take_of_length_le (by simp)
        rw [e]
        simp [strs]
  · obtain rfl : i = l.length := by omega
    simp [withR] at hc
    simp [foundW] at hf
    have hal : allLen (strs l) 1 := allLen_strs l
    have e : List.take l.length (strs l) = strs l := List.take_of_length_le (by simp)
    have e2 : allLen (List.drop l.length (strs l)) 1 := fun x hx => hal x (List.mem_of_mem_drop hx)
    simp [wV, wM, hf, hc, e, hal]
    exact ⟨⟨by simp [roomy]; omega, by omega⟩, ⟨by simp [allLen], by simp [roomy]; omega, by omega⟩, ⟨e2, by simp [roomy]; omega, by omega⟩, by kernel_rfl⟩
def wT : List S → List Tm → List S
  | o, [] => o
  | o, t :: r => if t.kind = 1 then wT (withR t.s o) r else wT o r
def wP : List S → List Pd → List S
  | o, [] => o
  | o, p :: r => wP (wT o p.terms) r
def wO : List S → List OpT → List S
  | o, [] => o
  | o, x :: r => if x.kind = 1 then if x.term.kind = 1 then wO (withR x.term.s o) r else wO o r else wO o r
theorem wT_drop {l : List Tm} {i : Nat} (h : i < l.length) (o : List S) : wT o (l.drop i) = if l[i].kind = 1 then wT (withR l[i].s o) (l.drop (i + 1)) else wT o (l.drop (i + 1)) := by
  rw [List.drop_eq_getElem_cons h]; rfl
theorem wP_drop {l : List Pd} {i : Nat} (h : i < l.length) (o : List S) : wP o (l.drop i) = wP (wT o l[i].terms) (l.drop (i + 1)) := by
  rw [List.drop_eq_getElem_cons h]; rfl
theorem wO_drop {l : List OpT} {i : Nat} (h : i < l.length) (o : List S) : wO o (l.drop i) = if l[i].kind = 1 then if l[i].term.kind = 1 then wO (withR l[i].term.s o) (l.drop (i + 1)) else wO o (l.drop (i + 1)) else wO o (l.drop (i + 1)) := by
  rw [List.drop_eq_getElem_cons h]; rfl
def namesR (l : List Pd) : List S := wP [] l
theorem f87 (X : CallRel) (ps : List Pd) (hlen : ps.length ≤ 9223372036854775807) (hts : ∀ p ∈ ps, p.terms.length ≤ 9223372036854775807) (hb : (varsP ps).length ≤ 1000000) :
    Run cfg X 87 [.sl (ps.map Pd.cells)] m0 (.sl (strs (namesR ps))) m0 := by
  refine Run.fn [.tmp 2] [131] Tryz.func87 rfl (by simp [Tryz.ntmps87]) rfl rfl (by kernel_rfl) ?_
  simp
  refine wp_loop (fun n s => ∃ i : Nat, n = ps.length - i ∧ i ≤ ps.length ∧ ∃ o : List S, wP o (ps.drop i) = namesR ps ∧ o.length + (varsP (ps.drop i)).length ≤ 1000000 ∧
      s = ⟨[(10, .int .i64 i), (9, .int .i64 ps.length), (8, .sl (ps.map Pd.cells)), (3, .sl (strs o))], m0⟩)
    { env := [10, 9, 8, 3], frz := [3] } ps.length ⟨0, by simp, by simp, [], by simp [namesR], by simpa using hb, by simp⟩ ?_
  rintro n s ⟨i, rfl, hi, o, ho, hol, rfl⟩
  by_cases hlt : i < ps.length
  · rw [wP_drop hlt] at ho
    rw [varsP_drop hlt] at hol
    simp only [List.length_append] at hol
    simp [hlt, Pd.cells]
    refine wp_loop (fun n s => ∃ j : Nat, n = ps[i].terms.length - j ∧ j ≤ ps[i].terms.length ∧ ∃ o : List S, wP (wT o (ps[i].terms.drop j)) (ps.drop (i + 1)) = namesR ps ∧
          o.length + (varsT (ps[i].terms.drop j)).length + (varsP (ps.drop (i + 1))).length ≤ 1000000 ∧
        s = ⟨[(17, .int .i64 j), (16, .int .i64 ps[i].terms.length), (15, .sl (ps[i].terms.map Tm.cells)), (10, .int .i64 i), (9, .int .i64 ps.length), (8, .sl (ps.map Pd.cells)), (3, .sl (strs o))], m0⟩)
      { env := [17, 16, 15, 10, 9, 8, 3], frz := [3] } ps[i].terms.length ⟨0, by simp, by simp, o, by simpa using ho, by simp; omega, by simp⟩ ?_
    clear ho hol o
    rintro n s ⟨j, rfl, hj, o, ho, hol, rfl⟩
    have htl := hts ps[i] (List.getElem_mem hlt)
    by_cases hjlt : j < ps[i].terms.length
    · rw [wT_drop hjlt] at ho
      rw [varsT_drop hjlt] at hol
      have hbk : IntKind.i64.wrap ((j : Int) + 1) = (j : Int) + 1 := wrap64_id (by omega) (by omega)
      simp [hjlt, Tm.cells_eq]
      (first | (refine guardK_true ?_ ?_ <;> intro hg <;> ((have hg0 := hg); (try simp only [decide_eq_true_eq, decide_eq_false_iff_not, Bool.not_eq_true', Bool.not_eq_false', beq_iff_eq, beq_eq_false_iff_ne, bne_iff_ne, ne_eq, bne_eq_false_iff_eq, List.isEmpty_iff, List.isEmpty_eq_false_iff] at hg) <;> (try simp [hg0, hg]) <;> clear hg0) <;> (try (revert hg; intro _))) | (refine guardK_false ?_ ?_ <;> intro hg <;> ((have hg0 := hg); (try simp only [decide_eq_true_eq, decide_eq_false_iff_not, Bool.not_eq_true', Bool.not_eq_false', beq_iff_eq, beq_eq_false_iff_ne, bne_iff_ne, ne_eq, bne_eq_false_iff_eq, List.isEmpty_iff, List.isEmpty_eq_false_iff] at hg) <;> (try simp [hg0, hg]) <;> clear hg0) <;> (try (revert hg; intro _))) | (refine boolK_by ?_ ?_ <;> intro hg <;> ((have hg0 := hg); (try simp only [decide_eq_true_eq, decide_eq_false_iff_not, Bool.not_eq_true', Bool.not_eq_false', beq_iff_eq, beq_eq_false_iff_ne, bne_iff_ne, ne_eq, bne_eq_false_iff_eq, List.isEmpty_iff, List.isEmpty_eq_false_iff] at hg) <;> (try simp [hg0, hg]) <;> clear hg0) <;> (try (revert hg; intro _))))
      · rename_i hk
        rw [if_pos hk] at ho hol
        simp only [List.length_cons] at hol
        have hw := withR_len ps[i].terms[j].s o
        refine runK_of (f157 X o _ (by omega)) ?_
        cases hf : foundW ps[i].terms[j].s o
        · simp [wV, wM, hf]
          refine loopK_back { env := [17, 16, 15, 10, 9, 8, 3], frz := [3] } (ps[i].terms.length - (j + 1)) (by omega) ⟨j + 1, rfl, by omega, withR ps[i].terms[j].s o, ho, by omega, ?_⟩
          simp [hbk]
        · simp [wV, wM, hf]
          refine loopK_back { env := [17, 16, 15, 10, 9, 8, 3], frz := [3] } (ps[i].terms.length - (j + 1)) (by omega) ⟨j + 1, rfl, by omega, withR ps[i].terms[j].s o, ho, by omega, ?_⟩
          simp [hbk, withR_found _ _ hf]
      · rename_i hk
        rw [if_neg hk] at ho hol
        refine loopK_back { env := [17, 16, 15, 10, 9, 8, 3], frz := [3] } (ps[i].terms.length - (j + 1)) (by omega) ⟨j + 1, rfl, by omega, o, ho, by omega, ?_⟩
        simp [hbk]
    · obtain rfl : j = ps[i].terms.length := by omega
      simp [wT, varsT] at ho hol ⊢
      refine loopK_back { env := [10, 9, 8, 3], frz := [3] } (ps.length - (i + 1)) (by omega) ⟨i + 1, rfl, by omega, o, ho, by omega, ?_⟩
      simp [wrap64_id (n := (i : Int) + 1) (by omega) (by omega)]
  · obtain rfl : i = ps.length := by omega
    simp [wP] at ho
    simp [ho]
def namesOR (l : List OpT) : List S := wO [] l
theorem f156 (X : CallRel) (l : List OpT) (hsm : ∀ o ∈ l, o.term.small) (hm : mayExprR l = true) (hlen : l.length ≤ 1000) :
    Run cfg X 156 [.agg [.sl (l.map OpT.cells)]] m0 (.sl (strs (namesOR l))) m0 := by
  refine Run.fn [.tmp 2] [131] Tryz.func156 rfl (by simp [Tryz.ntmps156]) rfl rfl (by kernel_rfl) ?_
  simp
  refine runK_of (f9 X l hsm) ?_
  simp [hm]
  refine wp_loop (fun n s => ∃ i : Nat, n = l.length - i ∧ i ≤ l.length ∧ ∃ o : List S, wO o (l.drop i) = namesOR l ∧ o.length + (varsO (l.drop i)).length ≤ 1000 ∧
      s = ⟨[(12, .int .i64 i), (11, .int .i64 l.length), (10, .sl (l.map OpT.cells)), (3, .sl (strs o))], m0⟩)
    { env := [12, 11, 10, 3], frz := [3] } l.length ⟨0, by simp, by simp, [], by simp [namesOR], by have := varsO_len l; simp; omega, by simp⟩ ?_
  rintro n s ⟨i, rfl, hi, o, ho, hol, rfl⟩
  by_cases hlt : i < l.length
  · rw [wO_drop hlt] at ho
    rw [varsO_drop hlt] at hol
    have hbk : IntKind.i64.wrap ((i : Int) + 1) = (i : Int) + 1 := wrap64_id (by omega) (by omega)
    simp [hlt, OpT.cells]
    (first | (refine guardK_true ?_ ?_ <;> intro hg <;> ((have hg0 := hg); (try simp only [decide_eq_true_eq, decide_eq_false_iff_not, Bool.not_eq_true', Bool.not_eq_false', beq_iff_eq, beq_eq_false_iff_ne, bne_iff_ne, ne_eq, bne_eq_false_iff_eq, List.isEmpty_iff, List.isEmpty_eq_false_iff] at hg) <;> (try simp [hg0, hg]) <;> clear hg0) <;> (try (revert hg; intro _))) | (refine guardK_false ?_ ?_ <;> intro hg <;> ((have hg0 := hg); (try simp only [decide_eq_true_eq, decide_eq_false_iff_not, Bool.not_eq_true', Bool.not_eq_false', beq_iff_eq, beq_eq_false_iff_ne, bne_iff_ne, ne_eq, bne_eq_false_iff_eq, List.isEmpty_iff, List.isEmpty_eq_false_iff] at hg) <;> (try simp [hg0, hg]) <;> clear hg0) <;> (try (revert hg; intro _))) | (refine boolK_by ?_ ?_ <;> intro hg <;> ((have hg0 := hg); (try simp only [decide_eq_true_eq, decide_eq_false_iff_not, Bool.not_eq_true', Bool.not_eq_false', beq_iff_eq, beq_eq_false_iff_ne, bne_iff_ne, ne_eq, bne_eq_false_iff_eq, List.isEmpty_iff, List.isEmpty_eq_false_iff] at hg) <;> (try simp [hg0, hg]) <;> clear hg0) <;> (try (revert hg; intro _))))
    · rename_i hk
      rw [if_pos hk] at ho hol
      (first | (refine guardK_true ?_ ?_ <;> intro hg <;> ((have hg0 := hg); (try simp only [decide_eq_true_eq, decide_eq_false_iff_not, Bool.not_eq_true', Bool.not_eq_false', beq_iff_eq, beq_eq_false_iff_ne, bne_iff_ne, ne_eq, bne_eq_false_iff_eq, List.isEmpty_iff, List.isEmpty_eq_false_iff] at hg) <;> (try simp [hg0, hg]) <;> clear hg0) <;> (try (revert hg; intro _))) | (refine guardK_false ?_ ?_ <;> intro hg <;> ((have hg0 := hg); (try simp only [decide_eq_true_eq, decide_eq_false_iff_not, Bool.not_eq_true', Bool.not_eq_false', beq_iff_eq, beq_eq_false_iff_ne, bne_iff_ne, ne_eq, bne_eq_false_iff_eq, List.isEmpty_iff, List.isEmpty_eq_false_iff] at hg) <;> (try simp [hg0, hg]) <;> clear hg0) <;> (try (revert hg; intro _))) | (refine boolK_by ?_ ?_ <;> intro hg <;> ((have hg0 := hg); (try simp only [decide_eq_true_eq, decide_eq_false_iff_not, Bool.not_eq_true', Bool.not_eq_false', beq_iff_eq, beq_eq_false_iff_ne, bne_iff_ne, ne_eq, bne_eq_false_iff_eq, List.isEmpty_iff, List.isEmpty_eq_false_iff] at hg) <;> (try simp [hg0, hg]) <;> clear hg0) <;> (try (revert hg; intro _))))
      · rename_i hk
        rw [if_pos hk] at ho hol
        simp only [List.length_cons] at hol
        have hw := withR_len l[i].term.s o
        refine runK_of (f157 X o _ (by omega)) ?_
        cases hf : foundW l[i].term.s o
        · simp [wV, wM, hf]
          refine loopK_back { env := [12, 11, 10, 3], frz := [3] } (l.length - (i + 1)) (by omega) ⟨i + 1, rfl, by omega, withR l[i].term.s o, ho, by omega, ?_⟩
          simp [hbk]
        · simp [wV, wM, hf]
          refine loopK_back { env := [12, 11, 10, 3], frz := [3] } (l.length - (i + 1)) (by omega) ⟨i + 1, rfl, by omega, withR l[i].term.s o, ho, by omega, ?_⟩
          simp [hbk, withR_found _ _ hf]
      · rename_i hk
        rw [if_neg hk] at ho hol
        refine loopK_back { env := [12, 11, 10, 3], frz := [3] } (l.length - (i + 1)) (by omega) ⟨i + 1, rfl, by omega, o, ho, by omega, ?_⟩
        simp [hbk]
    · rename_i hk
      rw [if_neg hk] at ho hol
      refine loopK_back { env := [12, 11, 10, 3], frz := [3] } (l.length - (i + 1)) (by omega) ⟨i + 1, rfl, by omega, o, ho, by omega, ?_⟩
      simp [hbk]
  · obtain rfl : i = l.length := by omega
    simp [wO] at ho
    simp [ho]
def allW (l of : List S) : Bool := l.all fun s => decide ((withR s of).length = of.length)
theorem f86 (X : CallRel) (l of : List S) (hl : l.length ≤ 1000000) (ho : of.length ≤ 1000000) : Run cfg X 86 [.sl (strs l), .sl (strs of)] m0 (.bool (allW l of)) m0 := by
  refine Run.fn [.tmp 4] [4] Tryz.func86 rfl (by simp [Tryz.ntmps86]) rfl rfl (by kernel_rfl) ?_
  simp
  refine wp_loop (fun n s => ∃ i : Nat, n = l.length - i ∧ i ≤ l.length ∧ allW l of = allW (l.drop i) of ∧
      s = ⟨[(9, .int .i64 i), (8, .int .i64 l.length), (7, .sl (strs l)), (1, .sl (strs of)), (4, .bool false)], m0⟩)
    { env := [9, 8, 7, 1, 4] } l.length ⟨0, by simp, by simp, by simp, by simp⟩ ?_
  rintro n s ⟨i, rfl, hi, hc, rfl⟩
  by_cases hlt : i < l.length
  · have hbk : IntKind.i64.wrap ((i : Int) + 1) = (i : Int) + 1 := wrap64_id (by omega) (by omega)
    have hd : allW (l.drop i) of = (decide ((withR l[i] of).length = of.length) && allW (l.drop (i + 1)) of) := by
      simp only [allW]
      rw [all_drop _ hlt]
    rw [hd] at hc
    simp [hlt, strs_get]
    refine runK_of (f157 X of _ ho) ?_
    cases hf : foundW l[i] of
    · simp [wV, wM, hf]
      (first | (refine guardK_true ?_ ?_ <;> intro hg <;> ((have hg0 := hg); (try simp only [decide_eq_true_eq, decide_eq_false_iff_not, Bool.not_eq_true', Bool.not_eq_false', beq_iff_eq, beq_eq_false_iff_ne, bne_iff_ne, ne_eq, bne_eq_false_iff_eq, List.isEmpty_iff, List.isEmpty_eq_false_iff] at hg) <;> (try simp [hg0, hg]) <;> clear hg0) <;> (try (revert hg; intro _))) | (refine guardK_false ?_ ?_ <;> intro hg <;> ((have hg0 := hg); (try simp only [decide_eq_true_eq, decide_eq_false_iff_not, Bool.not_eq_true', Bool.not_eq_false', beq_iff_eq, beq_eq_false_iff_ne, bne_iff_ne, ne_eq, bne_eq_false_iff_eq, List.isEmpty_iff, List.isEmpty_eq_false_iff] at hg) <;> (try simp [hg0, hg]) <;> clear hg0) <;> (try (revert hg; intro _))) | (refine boolK_by ?_ ?_ <;> intro hg <;> ((have hg0 := hg); (try simp only [decide_eq_true_eq, decide_eq_false_iff_not, Bool.not_eq_true', Bool.not_eq_false', beq_iff_eq, beq_eq_false_iff_ne, bne_iff_ne, ne_eq, bne_eq_false_iff_eq, List.isEmpty_iff, List.isEmpty_eq_false_iff] at hg) <;> (try simp [hg0, hg]) <;> clear hg0) <;> (try (revert hg; intro _))))
      · have hne : ¬ (withR l[i] of).length = of.length := by omega
        simp [hc, hne]
      · have hne : (withR l[i] of).length = of.length := by omega
        refine loopK_back { env := [9, 8, 7, 1, 4] } (l.length - (i + 1)) (by omega) ⟨i + 1, rfl, by omega, by rw [hc]; simp [hne], ?_⟩
        simp [hbk]
    · have hne : (withR l[i] of).length = of.length := by rw [withR_found _ _ hf]
      simp [wV, wM, hf]
      refine loopK_back { env := [9, 8, 7, 1, 4] } (l.length - (i + 1)) (by omega) ⟨i + 1, rfl, by omega, by rw [hc]; simp [hne], ?_⟩
      simp [hbk]
  · obtain rfl : i = l.length := by omega
    rw [List.drop_length] at hc
    have hc' : allW l of = true := hc
    simp [hc']
end Go.Vm

namespace Go.Vm
open Go Go.Proofs
def Pd.small (p : Pd) : Prop := p.name.length ≤ 9223372036854775807 ∧ p.terms.length ≤ 9223372036854775807 ∧ ∀ t ∈ p.terms, t.small
def Sc.small (s : Sc) : Prop := s.key.length ≤ 9223372036854775807
def exSmall (e : Exp) : Prop := e.length ≤ 9223372036854775807 ∧ ∀ o ∈ e, o.term.small
def Ru.small (r : Ru) : Prop := r.head.small ∧ (r.body.length ≤ 9223372036854775807 ∧ ∀ p ∈ r.body, p.small) ∧ (r.exprs.length ≤ 9223372036854775807 ∧ ∀ e ∈ r.exprs, exSmall e) ∧ r.scopes.length ≤ 9223372036854775807 ∧ ∀ s ∈ r.scopes, s.small
def Ck.small (c : Ck) : Prop := c.queries.length ≤ 9223372036854775807 ∧ ∀ r ∈ c.queries, r.small
def Bk.small (b : Bk) : Prop := (b.facts.length ≤ 9223372036854775807 ∧ ∀ p ∈ b.facts, p.small) ∧ (b.rules.length ≤ 9223372036854775807 ∧ ∀ r ∈ b.rules, r.small) ∧ (b.checks.length ≤ 9223372036854775807 ∧ ∀ c ∈ b.checks, c.small) ∧ b.scopes.length ≤ 9223372036854775807 ∧ ∀ s ∈ b.scopes, s.small
def truS : S := [116, 114, 117, 101]
def falS : S := [102, 97, 108, 115, 101]
def mayPredR (p : Pd) : Bool := if nameR p.name = false then false else if p.name = truS then false else if p.name = falS then false else if 8 < (p.terms.length : Int) then false else p.terms.all mayR
theorem f64 (X : CallRel) (p : Pd) (h : p.small) : Run cfg X 64 [.agg p.cells] m0 (.bool (mayPredR p)) m0 := by
  obtain ⟨h1, h2, h3⟩ := h
  refine Run.fn [.tmp 2] [4] Tryz.func64 rfl (by simp [Tryz.ntmps64]) rfl rfl (by kernel_rfl) ?_
  simp [Pd.cells]
  refine runK_of (f61 X p.name) ?_
  simp
  (repeat' (first | (first | (refine guardK_true ?_ ?_ <;> intro hg <;> ((have hg0 := hg); (try simp only [decide_eq_true_eq, decide_eq_false_iff_not, Bool.not_eq_true', Bool.not_eq_false', beq_iff_eq, beq_eq_false_iff_ne, bne_iff_ne, ne_eq, bne_eq_false_iff_eq, List.isEmpty_iff, List.isEmpty_eq_false_iff] at hg) <;> (try simp [hg0, hg]) <;> clear hg0) <;> (try (revert hg; intro _))) | (refine guardK_false ?_ ?_ <;> intro hg <;> ((have hg0 := hg); (try simp only [decide_eq_true_eq, decide_eq_false_iff_not, Bool.not_eq_true', Bool.not_eq_false', beq_iff_eq, beq_eq_false_iff_ne, bne_iff_ne, ne_eq, bne_eq_false_iff_eq, List.isEmpty_iff, List.isEmpty_eq_false_iff] at hg) <;> (try simp [hg0, hg]) <;> clear hg0) <;> (try (revert hg; intro _))) | (refine boolK_by ?_ ?_ <;> intro hg <;> ((have hg0 := hg); (try simp only [decide_eq_true_eq, decide_eq_false_iff_not, Bool.not_eq_true', Bool.not_eq_false', beq_iff_eq, beq_eq_false_iff_ne, bne_iff_ne, ne_eq, bne_eq_false_iff_eq, List.isEmpty_iff, List.isEmpty_eq_false_iff] at hg) <;> (try simp [hg0, hg]) <;> clear hg0) <;> (try (revert hg; intro _)))) | (refine And.intro ?_ ?_; (first | assumption | omega | kernel_rfl); try simp)))
  any_goals (simp [mayPredR, truS, falS, *]; done)
  have hspec : mayPredR p = p.terms.all mayR := by simp only [mayPredR, truS, falS, *]; simp
  refine wp_loop (fun n s => ∃ i : Nat, n = p.terms.length - i ∧ i ≤ p.terms.length ∧ mayPredR p = (p.terms.drop i).all mayR ∧
      s = ⟨[(28, .int .i64 i), (27, .int .i64 p.terms.length), (26, .sl (p.terms.map Tm.cells)), (2, .bool false)], m0⟩)
    { env := [28, 27, 26, 2] } p.terms.length ⟨0, by simp, by simp, by simpa using hspec, by simp⟩ ?_
  clear hspec
  rintro n s ⟨i, rfl, hi, hc, rfl⟩
  by_cases hlt : i < p.terms.length
  · have hbk : IntKind.i64.wrap ((i : Int) + 1) = (i : Int) + 1 := wrap64_id (by omega) (by omega)
    rw [all_drop _ hlt] at hc
    have hr := f23 X p.terms[i] (h3 _ (List.getElem_mem hlt))
    simp only [Tm.cells_eq] at hr
    simp [hlt, Tm.cells_eq]
    refine runK_of hr ?_
    simp
    (first | (refine guardK_true ?_ ?_ <;> intro hg <;> ((have hg0 := hg); (try simp only [decide_eq_true_eq, decide_eq_false_iff_not, Bool.not_eq_true', Bool.not_eq_false', beq_iff_eq, beq_eq_false_iff_ne, bne_iff_ne, ne_eq, bne_eq_false_iff_eq, List.isEmpty_iff, List.isEmpty_eq_false_iff] at hg) <;> (try simp [hg0, hg]) <;> clear hg0) <;> (try (revert hg; intro _))) | (refine guardK_false ?_ ?_ <;> intro hg <;> ((have hg0 := hg); (try simp only [decide_eq_true_eq, decide_eq_false_iff_not, Bool.not_eq_true', Bool.not_eq_false', beq_iff_eq, beq_eq_false_iff_ne, bne_iff_ne, ne_eq, bne_eq_false_iff_eq, List.isEmpty_iff, List.isEmpty_eq_false_iff] at hg) <;> (try simp [hg0, hg]) <;> clear hg0) <;> (try (revert hg; intro _))) | (refine boolK_by ?_ ?_ <;> intro hg <;> ((have hg0 := hg); (try simp only [decide_eq_true_eq, decide_eq_false_iff_not, Bool.not_eq_true', Bool.not_eq_false', beq_iff_eq, beq_eq_false_iff_ne, bne_iff_ne, ne_eq, bne_eq_false_iff_eq, List.isEmpty_iff, List.isEmpty_eq_false_iff] at hg) <;> (try simp [hg0, hg]) <;> clear hg0) <;> (try (revert hg; intro _))))
    · simp [hc, *]
    · refine loopK_back { env := [28, 27, 26, 2] } (p.terms.length - (i + 1)) (by omega) ⟨i + 1, rfl, by omega, by rw [hc]; simp [*], ?_⟩
      simp [hbk]
  · obtain rfl : i = p.terms.length := by omega
    rw [List.drop_length] at hc
    simp [hc]
def mayFactR (p : Pd) : Bool := if (p.terms.all fun t => !decide (t.kind = 1)) = true then mayPredR p else false
theorem f25 (X : CallRel) (p : Pd) (h : p.small) : Run cfg X 25 [.agg p.cells] m0 (.bool (mayFactR p)) m0 := by
  have hp := f64 X p h
  obtain ⟨h1, h2, h3⟩ := h
  refine Run.fn [.tmp 2] [4] Tryz.func25 rfl (by simp [Tryz.ntmps25]) rfl rfl (by kernel_rfl) ?_
  simp only [Pd.cells] at hp ⊢
  simp
  refine wp_loop (fun n s => ∃ i : Nat, n = p.terms.length - i ∧ i ≤ p.terms.length ∧ (p.terms.all fun t => !decide (t.kind = 1)) = ((p.terms.drop i).all fun t => !decide (t.kind = 1)) ∧
      s = ⟨[(8, .int .i64 i), (7, .int .i64 p.terms.length), (6, .sl (p.terms.map Tm.cells)), (2, .bool false), (1, .ptr 0 0)], ⟨[[.str (bs p.name), .sl (p.terms.map Tm.cells)]], [], [], []⟩⟩)
    { env := [8, 7, 6, 2, 1] } p.terms.length ⟨0, by simp, by simp, by simp, by simp⟩ ?_
  rintro n s ⟨i, rfl, hi, hc, rfl⟩
  by_cases hlt : i < p.terms.length
  · have hbk : IntKind.i64.wrap ((i : Int) + 1) = (i : Int) + 1 := wrap64_id (by omega) (by omega)
    rw [all_drop _ hlt] at hc
    simp [hlt, Tm.cells_eq]
    (first | (refine guardK_true ?_ ?_ <;> intro hg <;> ((have hg0 := hg); (try simp only [decide_eq_true_eq, decide_eq_false_iff_not, Bool.not_eq_true', Bool.not_eq_false', beq_iff_eq, beq_eq_false_iff_ne, bne_iff_ne, ne_eq, bne_eq_false_iff_eq, List.isEmpty_iff, List.isEmpty_eq_false_iff] at hg) <;> (try simp [hg0, hg]) <;> clear hg0) <;> (try (revert hg; intro _))) | (refine guardK_false ?_ ?_ <;> intro hg <;> ((have hg0 := hg); (try simp only [decide_eq_true_eq, decide_eq_false_iff_not, Bool.not_eq_true', Bool.not_eq_false', beq_iff_eq, beq_eq_false_iff_ne, bne_iff_ne, ne_eq, bne_eq_false_iff_eq, List.isEmpty_iff, List.isEmpty_eq_false_iff] at hg) <;> (try simp [hg0, hg]) <;> clear hg0) <;> (try (revert hg; intro _))) | (refine boolK_by ?_ ?_ <;> intro hg <;> ((have hg0 := hg); (try simp only [decide_eq_true_eq, decide_eq_false_iff_not, Bool.not_eq_true', Bool.not_eq_false', beq_iff_eq, beq_eq_false_iff_ne, bne_iff_ne, ne_eq, bne_eq_false_iff_eq, List.isEmpty_iff, List.isEmpty_eq_false_iff] at hg) <;> (try simp [hg0, hg]) <;> clear hg0) <;> (try (revert hg; intro _))))
    · simp [mayFactR, hc, *]
    · refine loopK_back { env := [8, 7, 6, 2, 1] } (p.terms.length - (i + 1)) (by omega) ⟨i + 1, rfl, by omega, by rw [hc]; simp [*], ?_⟩
      simp [hbk]
  · obtain rfl : i = p.terms.length := by omega
    rw [List.drop_length] at hc
    simp
    refine runK_of hp ?_
    have hc' : (p.terms.all fun t => !decide (t.kind = 1)) = true := hc
    have hs : mayFactR p = mayPredR p := by simp only [mayFactR, if_pos hc']
    simp [hs]
def mayScR (s : Sc) : Bool := if s.kind = 1 ∨ s.kind = 2 then s.key.isEmpty else if s.kind = 3 then (s.key.length : Int) == 32 else false
theorem f84 (X : CallRel) (s : Sc) : Run cfg X 84 [.agg s.cells] m0 (.bool (mayScR s)) m0 := by
  refine Run.fn [.tmp 2] [4] Tryz.func84 rfl (by simp [Tryz.ntmps84]) rfl rfl (by kernel_rfl) ?_
  simp [Sc.cells]
  (repeat' (first | (first | (refine guardK_true ?_ ?_ <;> intro hg <;> ((have hg0 := hg); (try simp only [decide_eq_true_eq, decide_eq_false_iff_not, Bool.not_eq_true', Bool.not_eq_false', beq_iff_eq, beq_eq_false_iff_ne, bne_iff_ne, ne_eq, bne_eq_false_iff_eq, List.isEmpty_iff, List.isEmpty_eq_false_iff] at hg) <;> (try simp [hg0, hg]) <;> clear hg0) <;> (try (revert hg; intro _))) | (refine guardK_false ?_ ?_ <;> intro hg <;> ((have hg0 := hg); (try simp only [decide_eq_true_eq, decide_eq_false_iff_not, Bool.not_eq_true', Bool.not_eq_false', beq_iff_eq, beq_eq_false_iff_ne, bne_iff_ne, ne_eq, bne_eq_false_iff_eq, List.isEmpty_iff, List.isEmpty_eq_false_iff] at hg) <;> (try simp [hg0, hg]) <;> clear hg0) <;> (try (revert hg; intro _))) | (refine boolK_by ?_ ?_ <;> intro hg <;> ((have hg0 := hg); (try simp only [decide_eq_true_eq, decide_eq_false_iff_not, Bool.not_eq_true', Bool.not_eq_false', beq_iff_eq, beq_eq_false_iff_ne, bne_iff_ne, ne_eq, bne_eq_false_iff_eq, List.isEmpty_iff, List.isEmpty_eq_false_iff] at hg) <;> (try simp [hg0, hg]) <;> clear hg0) <;> (try (revert hg; intro _)))) | (refine And.intro ?_ ?_; (first | assumption | omega | kernel_rfl); try simp)))
  all_goals simp [mayScR, *]
def mayScsR (l : List Sc) : Bool := if l.all mayScR = true then decide ((l.length : Int) ≤ 4) else false
theorem f40 (X : CallRel) (l : List Sc) (hl : l.length ≤ 9223372036854775807) : Run cfg X 40 [.sl (l.map Sc.cells)] m0 (.bool (mayScsR l)) m0 := by
  refine Run.fn [.tmp 2] [4] Tryz.func40 rfl (by simp [Tryz.ntmps40]) rfl rfl (by kernel_rfl) ?_
  simp
  refine wp_loop (fun n s => ∃ i : Nat, n = l.length - i ∧ i ≤ l.length ∧ l.all mayScR = (l.drop i).all mayScR ∧
      s = ⟨[(7, .int .i64 i), (6, .int .i64 l.length), (5, .sl (l.map Sc.cells)), (0, .sl (l.map Sc.cells)), (2, .bool false)], m0⟩)
    { env := [7, 6, 5, 0, 2] } l.length ⟨0, by simp, by simp, by simp, by simp⟩ ?_
  rintro n s ⟨i, rfl, hi, hc, rfl⟩
  by_cases hlt : i < l.length
  · have hbk : IntKind.i64.wrap ((i : Int) + 1) = (i : Int) + 1 := wrap64_id (by omega) (by omega)
    rw [all_drop _ hlt] at hc
    have hr := f84 X l[i]
    simp only [Sc.cells] at hr
    simp [hlt, Sc.cells]
    refine runK_of hr ?_
    simp
    (first | (refine guardK_true ?_ ?_ <;> intro hg <;> ((have hg0 := hg); (try simp only [decide_eq_true_eq, decide_eq_false_iff_not, Bool.not_eq_true', Bool.not_eq_false', beq_iff_eq, beq_eq_false_iff_ne, bne_iff_ne, ne_eq, bne_eq_false_iff_eq, List.isEmpty_iff, List.isEmpty_eq_false_iff] at hg) <;> (try simp [hg0, hg]) <;> clear hg0) <;> (try (revert hg; intro _))) | (refine guardK_false ?_ ?_ <;> intro hg <;> ((have hg0 := hg); (try simp only [decide_eq_true_eq, decide_eq_false_iff_not, Bool.not_eq_true', Bool.not_eq_false', beq_iff_eq, beq_eq_false_iff_ne, bne_iff_ne, ne_eq, bne_eq_false_iff_eq, List.isEmpty_iff, List.isEmpty_eq_false_iff] at hg) <;> (try simp [hg0, hg]) <;> clear hg0) <;> (try (revert hg; intro _))) | (refine boolK_by ?_ ?_ <;> intro hg <;> ((have hg0 := hg); (try simp only [decide_eq_true_eq, decide_eq_false_iff_not, Bool.not_eq_true', Bool.not_eq_false', beq_iff_eq, beq_eq_false_iff_ne, bne_iff_ne, ne_eq, bne_eq_false_iff_eq, List.isEmpty_iff, List.isEmpty_eq_false_iff] at hg) <;> (try simp [hg0, hg]) <;> clear hg0) <;> (try (revert hg; intro _))))
    · simp [mayScsR, hc, *]
    · refine loopK_back { env := [7, 6, 5, 0, 2] } (l.length - (i + 1)) (by omega) ⟨i + 1, rfl, by omega, by rw [hc]; simp [*], ?_⟩
      simp [hbk]
  · obtain rfl : i = l.length := by omega
    rw [List.drop_length] at hc
    have hc' : l.all mayScR = true := hc
    have hs : mayScsR l = decide ((l.length : Int) ≤ 4) := by simp only [mayScsR, if_pos hc']
    simp [hs]
def exOkR (names : List S) (e : Exp) : Bool := if mayExprR e = true then allW (namesOR e) names else false
def mayBodyR (r : Ru) : Bool :=
  if 4 < (r.body.length : Int) then false else if 4 < (r.exprs.length : Int) then false else if mayScsR r.scopes = false then false else
  if r.body.all mayPredR = true then r.exprs.all (exOkR (namesR r.body)) else false
theorem pred_terms {p : Pd} (h : mayPredR p = true) : p.terms.length ≤ 8 := by
  unfold mayPredR at h
  repeat' split at h
  all_goals first
    | cases h
    | omega
theorem expr_len {e : Exp} (h : mayExprR e = true) : e.length ≤ 32 := by
  unfold mayExprR at h
  repeat' split at h
  all_goals first
    | cases h
    | omega
theorem varsT_len : ∀ l : List Tm, (varsT l).length ≤ l.length
  | [] => by simp [varsT]
  | t :: r => by
    have := varsT_len r
    simp only [varsT]
    split <;> simp only [List.length_cons] <;> omega
theorem varsP_len : ∀ l : List Pd, (∀ p ∈ l, p.terms.length ≤ 8) → (varsP l).length ≤ 8 * l.length
  | [], _ => by simp [varsP]
  | p :: r, h => by
    have h1 := varsP_len r fun q hq => h q (List.mem_cons_of_mem _ hq)
    have h2 := varsT_len p.terms
    have h3 := h p (by simp)
    simp only [varsP, List.length_append, List.length_cons]
    omega
theorem wT_len : ∀ (l : List Tm) (o : List S), (wT o l).length ≤ o.length + l.length
  | [], o => by simp [wT]
  | t :: r, o => by
    simp only [wT]
    split
    · have h1 := wT_len r (withR t.s o)
      have h2 := withR_len t.s o
      simp only [List.length_cons]
      omega
    · have := wT_len r o
      simp only [List.length_cons]
      omega
theorem wP_len : ∀ (l : List Pd) (o : List S), (∀ p ∈ l, p.terms.length ≤ 8) → (wP o l).length ≤ o.length + 8 * l.length
  | [], o, _ => by simp [wP]
  | p :: r, o, h => by
    have h1 := wP_len r (wT o p.terms) fun q hq => h q (List.mem_cons_of_mem _ hq)
    have h2 := wT_len p.terms o
    have h3 := h p (by simp)
    simp only [wP, List.length_cons]
    omega
theorem wO_len : ∀ (l : List OpT) (o : List S), (wO o l).length ≤ o.length + l.length
  | [], o => by simp [wO]
  | t :: r, o => by
    have h2 := withR_len t.term.s o
    have h1 := wO_len r (withR t.term.s o)
    have h3 := wO_len r o
    simp only [wO, List.length_cons]
    repeat' split
    all_goals omega
theorem f85 (X : CallRel) (r : Ru) (h : r.small) : Run cfg X 85 [.agg r.cells] m0 (.bool (mayBodyR r)) m0 := by
  obtain ⟨_, ⟨hb, hb'⟩, ⟨he, he'⟩, hs, hs'⟩ := h
  refine Run.fn [.tmp 2] [4] Tryz.func85 rfl (by simp [Tryz.ntmps85]) rfl rfl (by kernel_rfl) ?_
  simp [Ru.cells]
  repeat' (first
    | (first | (refine guardK_true ?_ ?_ <;> intro hg <;> ((have hg0 := hg); (try simp only [decide_eq_true_eq, decide_eq_false_iff_not, Bool.not_eq_true', Bool.not_eq_false', beq_iff_eq, beq_eq_false_iff_ne, bne_iff_ne, ne_eq, bne_eq_false_iff_eq, List.isEmpty_iff, List.isEmpty_eq_false_iff] at hg) <;> (try simp [hg0, hg]) <;> clear hg0) <;> (try (revert hg; intro _))) | (refine guardK_false ?_ ?_ <;> intro hg <;> ((have hg0 := hg); (try simp only [decide_eq_true_eq, decide_eq_false_iff_not, Bool.not_eq_true', Bool.not_eq_false', beq_iff_eq, beq_eq_false_iff_ne, bne_iff_ne, ne_eq, bne_eq_false_iff_eq, List.isEmpty_iff, List.isEmpty_eq_false_iff] at hg) <;> (try simp [hg0, hg]) <;> clear hg0) <;> (try (revert hg; intro _))) | (refine boolK_by ?_ ?_ <;> intro hg <;> ((have hg0 := hg); (try simp only [decide_eq_true_eq, decide_eq_false_iff_not, Bool.not_eq_true', Bool.not_eq_false', beq_iff_eq, beq_eq_false_iff_ne, bne_iff_ne, ne_eq, bne_eq_false_iff_eq, List.isEmpty_iff, List.isEmpty_eq_false_iff] at hg) <;> (try simp [hg0, hg]) <;> clear hg0) <;> (try (revert hg; intro _))))
    | (refine runK_of (f40 X r.scopes hs) ?_; simp))
  any_goals (simp [mayBodyR, *]; done)
  have hspec : mayBodyR r = if r.body.all mayPredR = true then r.exprs.all (exOkR (namesR r.body)) else false := by simp only [mayBodyR, *]; simp
  refine wp_loop (fun n s => ∃ i : Nat, n = r.body.length - i ∧ i ≤ r.body.length ∧ r.body.all mayPredR = (r.body.drop i).all mayPredR ∧
      s = ⟨[(27, .int .i64 i), (26, .int .i64 r.body.length), (25, .sl (r.body.map Pd.cells)), (2, .bool false), (1, .ptr 0 0)], ⟨[r.cells], [], [], []⟩⟩)
    { env := [27, 26, 25, 2, 1] } r.body.length ⟨0, by simp, by simp, by simp, by simp [Ru.cells]⟩ ?_
  rintro n s ⟨i, rfl, hi, hc, rfl⟩
  by_cases hlt : i < r.body.length
  · have hbk : IntKind.i64.wrap ((i : Int) + 1) = (i : Int) + 1 := wrap64_id (by omega) (by omega)
    rw [all_drop _ hlt] at hc
    have hr := f64 X r.body[i] (hb' _ (List.getElem_mem hlt))
    simp only [Pd.cells] at hr
    simp [hlt, Pd.cells, Ru.cells]
    refine runK_of hr ?_
    simp
    (first | (refine guardK_true ?_ ?_ <;> intro hg <;> ((have hg0 := hg); (try simp only [decide_eq_true_eq, decide_eq_false_iff_not, Bool.not_eq_true', Bool.not_eq_false', beq_iff_eq, beq_eq_false_iff_ne, bne_iff_ne, ne_eq, bne_eq_false_iff_eq, List.isEmpty_iff, List.isEmpty_eq_false_iff] at hg) <;> (try simp [hg0, hg]) <;> clear hg0) <;> (try (revert hg; intro _))) | (refine guardK_false ?_ ?_ <;> intro hg <;> ((have hg0 := hg); (try simp only [decide_eq_true_eq, decide_eq_false_iff_not, Bool.not_eq_true', Bool.not_eq_false', beq_iff_eq, beq_eq_false_iff_ne, bne_iff_ne, ne_eq, bne_eq_false_iff_eq, List.isEmpty_iff, List.isEmpty_eq_false_iff] at hg) <;> (try simp [hg0, hg]) <;> clear hg0) <;> (try (revert hg; intro _))) | (refine boolK_by ?_ ?_ <;> intro hg <;> ((have hg0 := hg); (try simp only [decide_eq_true_eq, decide_eq_false_iff_not, Bool.not_eq_true', Bool.not_eq_false', beq_iff_eq, beq_eq_false_iff_ne, bne_iff_ne, ne_eq, bne_eq_false_iff_eq, List.isEmpty_iff, List.isEmpty_eq_false_iff] at hg) <;> (try simp [hg0, hg]) <;> clear hg0) <;> (try (revert hg; intro _))))
    · rw [hspec, hc]
      simp [*]
    · refine loopK_back { env := [27, 26, 25, 2, 1] } (r.body.length - (i + 1)) (by omega) ⟨i + 1, rfl, by omega, by rw [hc]; simp [*], ?_⟩
      simp [hbk, Ru.cells]
  · obtain rfl : i = r.body.length := by omega
    rw [List.drop_length] at hc
    have hc' : r.body.all mayPredR = true := hc
    have hspec2 : mayBodyR r = r.exprs.all (exOkR (namesR r.body)) := by rw [hspec, if_pos hc']
    have h8 : ∀ p ∈ r.body, p.terms.length ≤ 8 := fun p hp => pred_terms (List.all_eq_true.1 hc' p hp)
    have hv := varsP_len r.body h8
    have hn : (namesR r.body).length ≤ 0 + 8 * r.body.length := wP_len r.body [] h8
    have hb4 : (r.body.length : Int) ≤ 4 := by omega
    simp [Ru.cells]
    refine runK_of (f87 X r.body hb (fun p hp => (hb' p hp).2.1) (by omega)) ?_
    simp
    clear hspec hc hlt
    refine wp_loop (fun n s => ∃ i : Nat, n = r.exprs.length - i ∧ i ≤ r.exprs.length ∧ mayBodyR r = (r.exprs.drop i).all (exOkR (namesR r.body)) ∧
        s = ⟨[(41, .int .i64 i), (40, .int .i64 r.exprs.length), (39, .sl (r.exprs.map exCells)), (5, .sl (strs (namesR r.body))), (2, .bool false)], m0⟩)
      { env := [41, 40, 39, 5, 2] } r.exprs.length ⟨0, by simp, by simp, by simpa using hspec2, by simp⟩ ?_
    rintro n s ⟨i, rfl, hi, hc, rfl⟩
    by_cases hlt : i < r.exprs.length
    · have hbk : IntKind.i64.wrap ((i : Int) + 1) = (i : Int) + 1 := wrap64_id (by omega) (by omega)
      rw [all_drop _ hlt] at hc
      have hq := he' _ (List.getElem_mem hlt)
      have hr := f9 X r.exprs[i] hq.2
      simp [hlt, exCells]
      refine runK_of hr ?_
      simp
      (first | (refine guardK_true ?_ ?_ <;> intro hg <;> ((have hg0 := hg); (try simp only [decide_eq_true_eq, decide_eq_false_iff_not, Bool.not_eq_true', Bool.not_eq_false', beq_iff_eq, beq_eq_false_iff_ne, bne_iff_ne, ne_eq, bne_eq_false_iff_eq, List.isEmpty_iff, List.isEmpty_eq_false_iff] at hg) <;> (try simp [hg0, hg]) <;> clear hg0) <;> (try (revert hg; intro _))) | (refine guardK_false ?_ ?_ <;> intro hg <;> ((have hg0 := hg); (try simp only [decide_eq_true_eq, decide_eq_false_iff_not, Bool.not_eq_true', Bool.not_eq_false', beq_iff_eq, beq_eq_false_iff_ne, bne_iff_ne, ne_eq, bne_eq_false_iff_eq, List.isEmpty_iff, List.isEmpty_eq_false_iff] at hg) <;> (try simp [hg0, hg]) <;> clear hg0) <;> (try (revert hg; intro _))) | (refine boolK_by ?_ ?_ <;> intro hg <;> ((have hg0 := hg); (try simp only [decide_eq_true_eq, decide_eq_false_iff_not, Bool.not_eq_true', Bool.not_eq_false', beq_iff_eq, beq_eq_false_iff_ne, bne_iff_ne, ne_eq, bne_eq_false_iff_eq, List.isEmpty_iff, List.isEmpty_eq_false_iff] at hg) <;> (try simp [hg0, hg]) <;> clear hg0) <;> (try (revert hg; intro _))))
      · rw [hc]
        simp [exOkR, *]
      · rename_i hm
        have hl := expr_len hm
        have hno : (namesOR r.exprs[i]).length ≤ 0 + r.exprs[i].length := wO_len _ []
        refine runK_of (f156 X r.exprs[i] hq.2 hm (by omega)) ?_
        simp
        refine runK_of (f86 X _ _ (by omega) (by omega)) ?_
        simp
        (first | (refine guardK_true ?_ ?_ <;> intro hg <;> ((have hg0 := hg); (try simp only [decide_eq_true_eq, decide_eq_false_iff_not, Bool.not_eq_true', Bool.not_eq_false', beq_iff_eq, beq_eq_false_iff_ne, bne_iff_ne, ne_eq, bne_eq_false_iff_eq, List.isEmpty_iff, List.isEmpty_eq_false_iff] at hg) <;> (try simp [hg0, hg]) <;> clear hg0) <;> (try (revert hg; intro _))) | (refine guardK_false ?_ ?_ <;> intro hg <;> ((have hg0 := hg); (try simp only [decide_eq_true_eq, decide_eq_false_iff_not, Bool.not_eq_true', Bool.not_eq_false', beq_iff_eq, beq_eq_false_iff_ne, bne_iff_ne, ne_eq, bne_eq_false_iff_eq, List.isEmpty_iff, List.isEmpty_eq_false_iff] at hg) <;> (try simp [hg0, hg]) <;> clear hg0) <;> (try (revert hg; intro _))) | (refine boolK_by ?_ ?_ <;> intro hg <;> ((have hg0 := hg); (try simp only [decide_eq_true_eq, decide_eq_false_iff_not, Bool.not_eq_true', Bool.not_eq_false', beq_iff_eq, beq_eq_false_iff_ne, bne_iff_ne, ne_eq, bne_eq_false_iff_eq, List.isEmpty_iff, List.isEmpty_eq_false_iff] at hg) <;> (try simp [hg0, hg]) <;> clear hg0) <;> (try (revert hg; intro _))))
        · rw [hc]
          simp [exOkR, *]
        · refine loopK_back { env := [41, 40, 39, 5, 2] } (r.exprs.length - (i + 1)) (by omega) ⟨i + 1, rfl, by omega, by rw [hc]; simp [exOkR, *], ?_⟩
          simp [hbk]
    · obtain rfl : i = r.exprs.length := by omega
      rw [List.drop_length] at hc
      have hc' : mayBodyR r = true := hc
      simp [hc']
def mayQueryR (r : Ru) : Bool := if r.head.name = [] then if (r.head.terms.length : Int) = 0 then if 0 < IntKind.i64.wrap ((r.body.length : Int) + r.exprs.length) then mayBodyR r else false else false else false
theorem f129 (X : CallRel) (r : Ru) (h : r.small) : Run cfg X 129 [.agg r.cells] m0 (.bool (mayQueryR r)) m0 := by
  have hb := f85 X r h
  simp only [Ru.cells] at hb
  refine Run.fn [.tmp 2] [4] Tryz.func129 rfl (by simp [Tryz.ntmps129]) rfl rfl (by kernel_rfl) ?_
  simp [Ru.cells]
  repeat' (first
    | (first | (refine guardK_true ?_ ?_ <;> intro hg <;> ((have hg0 := hg); (try simp only [decide_eq_true_eq, decide_eq_false_iff_not, Bool.not_eq_true', Bool.not_eq_false', beq_iff_eq, beq_eq_false_iff_ne, bne_iff_ne, ne_eq, bne_eq_false_iff_eq, List.isEmpty_iff, List.isEmpty_eq_false_iff] at hg) <;> (try simp [hg0, hg]) <;> clear hg0) <;> (try (revert hg; intro _))) | (refine guardK_false ?_ ?_ <;> intro hg <;> ((have hg0 := hg); (try simp only [decide_eq_true_eq, decide_eq_false_iff_not, Bool.not_eq_true', Bool.not_eq_false', beq_iff_eq, beq_eq_false_iff_ne, bne_iff_ne, ne_eq, bne_eq_false_iff_eq, List.isEmpty_iff, List.isEmpty_eq_false_iff] at hg) <;> (try simp [hg0, hg]) <;> clear hg0) <;> (try (revert hg; intro _))) | (refine boolK_by ?_ ?_ <;> intro hg <;> ((have hg0 := hg); (try simp only [decide_eq_true_eq, decide_eq_false_iff_not, Bool.not_eq_true', Bool.not_eq_false', beq_iff_eq, beq_eq_false_iff_ne, bne_iff_ne, ne_eq, bne_eq_false_iff_eq, List.isEmpty_iff, List.isEmpty_eq_false_iff] at hg) <;> (try simp [hg0, hg]) <;> clear hg0) <;> (try (revert hg; intro _))))
    | (refine runK_of (by simpa [*] using hb) ?_; simp))
  all_goals (simp [mayQueryR, *]; try (intro hh; simp [hh] at *))
def mayRuleR (r : Ru) : Bool := if mayPredR r.head = true then if 0 < (r.body.length : Int) then if mayBodyR r = true then allW (namesR [r.head]) (namesR r.body) else false else false else false
theorem body_terms {r : Ru} (h : mayBodyR r = true) : r.body.length ≤ 4 ∧ ∀ p ∈ r.body, p.terms.length ≤ 8 := by
  unfold mayBodyR at h
  split at h
  · cases h
  · split at h
    · cases h
    · split at h
      · cases h
      · split at h
        · rename_i h1 _ _ hc
          exact ⟨by omega, fun p hp => pred_terms (List.all_eq_true.1 hc p hp)⟩
        · cases h
theorem f41 (X : CallRel) (r : Ru) (h : r.small) : Run cfg X 41 [.agg r.cells] m0 (.bool (mayRuleR r)) m0 := by
  have hb := f85 X r h
  have hp := f64 X r.head h.1
  simp only [Ru.cells, Pd.cells] at hb hp
  refine Run.fn [.tmp 2] [4] Tryz.func41 rfl (by simp [Tryz.ntmps41]) rfl rfl (by kernel_rfl) ?_
  simp [Ru.cells, List.range_succ]
  refine runK_of hp ?_
  simp
  (first | (refine guardK_true ?_ ?_ <;> intro hg <;> ((have hg0 := hg); (try simp only [decide_eq_true_eq, decide_eq_false_iff_not, Bool.not_eq_true', Bool.not_eq_false', beq_iff_eq, beq_eq_false_iff_ne, bne_iff_ne, ne_eq, bne_eq_false_iff_eq, List.isEmpty_iff, List.isEmpty_eq_false_iff] at hg) <;> (try simp [hg0, hg]) <;> clear hg0) <;> (try (revert hg; intro _))) | (refine guardK_false ?_ ?_ <;> intro hg <;> ((have hg0 := hg); (try simp only [decide_eq_true_eq, decide_eq_false_iff_not, Bool.not_eq_true', Bool.not_eq_false', beq_iff_eq, beq_eq_false_iff_ne, bne_iff_ne, ne_eq, bne_eq_false_iff_eq, List.isEmpty_iff, List.isEmpty_eq_false_iff] at hg) <;> (try simp [hg0, hg]) <;> clear hg0) <;> (try (revert hg; intro _))) | (refine boolK_by ?_ ?_ <;> intro hg <;> ((have hg0 := hg); (try simp only [decide_eq_true_eq, decide_eq_false_iff_not, Bool.not_eq_true', Bool.not_eq_false', beq_iff_eq, beq_eq_false_iff_ne, bne_iff_ne, ne_eq, bne_eq_false_iff_eq, List.isEmpty_iff, List.isEmpty_eq_false_iff] at hg) <;> (try simp [hg0, hg]) <;> clear hg0) <;> (try (revert hg; intro _))))
  · (first | (refine guardK_true ?_ ?_ <;> intro hg <;> ((have hg0 := hg); (try simp only [decide_eq_true_eq, decide_eq_false_iff_not, Bool.not_eq_true', Bool.not_eq_false', beq_iff_eq, beq_eq_false_iff_ne, bne_iff_ne, ne_eq, bne_eq_false_iff_eq, List.isEmpty_iff, List.isEmpty_eq_false_iff] at hg) <;> (try simp [hg0, hg]) <;> clear hg0) <;> (try (revert hg; intro _))) | (refine guardK_false ?_ ?_ <;> intro hg <;> ((have hg0 := hg); (try simp only [decide_eq_true_eq, decide_eq_false_iff_not, Bool.not_eq_true', Bool.not_eq_false', beq_iff_eq, beq_eq_false_iff_ne, bne_iff_ne, ne_eq, bne_eq_false_iff_eq, List.isEmpty_iff, List.isEmpty_eq_false_iff] at hg) <;> (try simp [hg0, hg]) <;> clear hg0) <;> (try (revert hg; intro _))) | (refine boolK_by ?_ ?_ <;> intro hg <;> ((have hg0 := hg); (try simp only [decide_eq_true_eq, decide_eq_false_iff_not, Bool.not_eq_true', Bool.not_eq_false', beq_iff_eq, beq_eq_false_iff_ne, bne_iff_ne, ne_eq, bne_eq_false_iff_eq, List.isEmpty_iff, List.isEmpty_eq_false_iff] at hg) <;> (try simp [hg0, hg]) <;> clear hg0) <;> (try (revert hg; intro _))))
    · refine runK_of hb ?_
      simp
      (first | (refine guardK_true ?_ ?_ <;> intro hg <;> ((have hg0 := hg); (try simp only [decide_eq_true_eq, decide_eq_false_iff_not, Bool.not_eq_true', Bool.not_eq_false', beq_iff_eq, beq_eq_false_iff_ne, bne_iff_ne, ne_eq, bne_eq_false_iff_eq, List.isEmpty_iff, List.isEmpty_eq_false_iff] at hg) <;> (try simp [hg0, hg]) <;> clear hg0) <;> (try (revert hg; intro _))) | (refine guardK_false ?_ ?_ <;> intro hg <;> ((have hg0 := hg); (try simp only [decide_eq_true_eq, decide_eq_false_iff_not, Bool.not_eq_true', Bool.not_eq_false', beq_iff_eq, beq_eq_false_iff_ne, bne_iff_ne, ne_eq, bne_eq_false_iff_eq, List.isEmpty_iff, List.isEmpty_eq_false_iff] at hg) <;> (try simp [hg0, hg]) <;> clear hg0) <;> (try (revert hg; intro _))) | (refine boolK_by ?_ ?_ <;> intro hg <;> ((have hg0 := hg); (try simp only [decide_eq_true_eq, decide_eq_false_iff_not, Bool.not_eq_true', Bool.not_eq_false', beq_iff_eq, beq_eq_false_iff_ne, bne_iff_ne, ne_eq, bne_eq_false_iff_eq, List.isEmpty_iff, List.isEmpty_eq_false_iff] at hg) <;> (try simp [hg0, hg]) <;> clear hg0) <;> (try (revert hg; intro _))))
      · rename_i h1 h2 h3
        have hq := pred_terms h1
        have hbt := body_terms h3
        have hv := varsP_len r.body hbt.2
        have hv1 := varsP_len [r.head] (by simpa using hq)
        have hn : (namesR r.body).length ≤ 0 + 8 * r.body.length := wP_len r.body [] hbt.2
        have hn1 : (namesR [r.head]).length ≤ 0 + 8 * 1 := wP_len [r.head] [] (by simpa using hq)
        simp only [List.length_cons, List.length_nil] at hv1
        refine runK_of (by simpa [Pd.cells] using f87 X [r.head] (by simp) (by simpa using h.1.2.1) (by omega)) ?_
        simp
        refine runK_of (f87 X r.body h.2.1.1 (fun p hp => (h.2.1.2 p hp).2.1) (by omega)) ?_
        simp
        refine runK_of (f86 X _ _ (by omega) (by omega)) ?_
        simp
        refine ⟨by kernel_rfl, ?_⟩
        simp [mayRuleR, *]
      · refine ⟨by kernel_rfl, ?_⟩
        simp [mayRuleR, *]
    · refine ⟨by kernel_rfl, ?_⟩
      simp [mayRuleR, *]
  · refine ⟨by kernel_rfl, ?_⟩
    simp [mayRuleR, *]
def mayQsR (l : List Ru) : Bool := if l.all mayQueryR = true then if 1 ≤ (l.length : Int) then decide ((l.length : Int) ≤ 8) else false else false
theorem f70 (X : CallRel) (l : List Ru) (hl : l.length ≤ 9223372036854775807) (hs : ∀ r ∈ l, r.small) : Run cfg X 70 [.sl (l.map Ru.cells)] m0 (.bool (mayQsR l)) m0 := by
  refine Run.fn [.tmp 2] [4] Tryz.func70 rfl (by simp [Tryz.ntmps70]) rfl rfl (by kernel_rfl) ?_
  simp
  refine wp_loop (fun n s => ∃ i : Nat, n = l.length - i ∧ i ≤ l.length ∧ l.all mayQueryR = (l.drop i).all mayQueryR ∧
      s = ⟨[(7, .int .i64 i), (6, .int .i64 l.length), (5, .sl (l.map Ru.cells)), (0, .sl (l.map Ru.cells)), (2, .bool false)], m0⟩)
    { env := [7, 6, 5, 0, 2] } l.length ⟨0, by simp, by simp, by simp, by simp⟩ ?_
  rintro n s ⟨i, rfl, hi, hc, rfl⟩
  by_cases hlt : i < l.length
  · have hbk : IntKind.i64.wrap ((i : Int) + 1) = (i : Int) + 1 := wrap64_id (by omega) (by omega)
    rw [all_drop _ hlt] at hc
    have hr := f129 X l[i] (hs _ (List.getElem_mem hlt))
    simp only [Ru.cells] at hr
    simp [hlt, Ru.cells]
    refine runK_of hr ?_
    simp
    (first | (refine guardK_true ?_ ?_ <;> intro hg <;> ((have hg0 := hg); (try simp only [decide_eq_true_eq, decide_eq_false_iff_not, Bool.not_eq_true', Bool.not_eq_false', beq_iff_eq, beq_eq_false_iff_ne, bne_iff_ne, ne_eq, bne_eq_false_iff_eq, List.isEmpty_iff, List.isEmpty_eq_false_iff] at hg) <;> (try simp [hg0, hg]) <;> clear hg0) <;> (try (revert hg; intro _))) | (refine guardK_false ?_ ?_ <;> intro hg <;> ((have hg0 := hg); (try simp only [decide_eq_true_eq, decide_eq_false_iff_not, Bool.not_eq_true', Bool.not_eq_false', beq_iff_eq, beq_eq_false_iff_ne, bne_iff_ne, ne_eq, bne_eq_false_iff_eq, List.isEmpty_iff, List.isEmpty_eq_false_iff] at hg) <;> (try simp [hg0, hg]) <;> clear hg0) <;> (try (revert hg; intro _))) | (refine boolK_by ?_ ?_ <;> intro hg <;> ((have hg0 := hg); (try simp only [decide_eq_true_eq, decide_eq_false_iff_not, Bool.not_eq_true', Bool.not_eq_false', beq_iff_eq, beq_eq_false_iff_ne, bne_iff_ne, ne_eq, bne_eq_false_iff_eq, List.isEmpty_iff, List.isEmpty_eq_false_iff] at hg) <;> (try simp [hg0, hg]) <;> clear hg0) <;> (try (revert hg; intro _))))
    · simp [mayQsR, hc, *]
    · refine loopK_back { env := [7, 6, 5, 0, 2] } (l.length - (i + 1)) (by omega) ⟨i + 1, rfl, by omega, by rw [hc]; simp [*], ?_⟩
      simp [hbk]
  · obtain rfl : i = l.length := by omega
    rw [List.drop_length] at hc
    have hc' : l.all mayQueryR = true := hc
    have hs : mayQsR l = if 1 ≤ (l.length : Int) then decide ((l.length : Int) ≤ 8) else false := by simp only [mayQsR, if_pos hc']
    simp
    (first | (refine guardK_true ?_ ?_ <;> intro hg <;> ((have hg0 := hg); (try simp only [decide_eq_true_eq, decide_eq_false_iff_not, Bool.not_eq_true', Bool.not_eq_false', beq_iff_eq, beq_eq_false_iff_ne, bne_iff_ne, ne_eq, bne_eq_false_iff_eq, List.isEmpty_iff, List.isEmpty_eq_false_iff] at hg) <;> (try simp [hg0, hg]) <;> clear hg0) <;> (try (revert hg; intro _))) | (refine guardK_false ?_ ?_ <;> intro hg <;> ((have hg0 := hg); (try simp only [decide_eq_true_eq, decide_eq_false_iff_not, Bool.not_eq_true', Bool.not_eq_false', beq_iff_eq, beq_eq_false_iff_ne, bne_iff_ne, ne_eq, bne_eq_false_iff_eq, List.isEmpty_iff, List.isEmpty_eq_false_iff] at hg) <;> (try simp [hg0, hg]) <;> clear hg0) <;> (try (revert hg; intro _))) | (refine boolK_by ?_ ?_ <;> intro hg <;> ((have hg0 := hg); (try simp only [decide_eq_true_eq, decide_eq_false_iff_not, Bool.not_eq_true', Bool.not_eq_false', beq_iff_eq, beq_eq_false_iff_ne, bne_iff_ne, ne_eq, bne_eq_false_iff_eq, List.isEmpty_iff, List.isEmpty_eq_false_iff] at hg) <;> (try simp [hg0, hg]) <;> clear hg0) <;> (try (revert hg; intro _))))
    · simp [hs, *]
    · simp [hs, *]
theorem f42 (X : CallRel) (c : Ck) (h : c.small) : Run cfg X 42 [.agg c.cells] m0 (.bool (mayQsR c.queries)) m0 := by
  refine Run.fn [.tmp 2] [4] Tryz.func42 rfl (by simp [Tryz.ntmps42]) rfl rfl (by kernel_rfl) ?_
  simp [Ck.cells]
  refine runK_of (f70 X c.queries h.1 h.2) ?_
  simp
def mayBlockR (b : Bk) : Bool :=
  if 32 < (b.facts.length : Int) then false else if 32 < (b.rules.length : Int) then false else if 32 < (b.checks.length : Int) then false else if mayScsR b.scopes = false then false else
  if b.facts.all mayFactR = true then if b.rules.all mayRuleR = true then b.checks.all fun c => mayQsR c.queries else false else false
theorem f14 (X : CallRel) (b : Bk) (h : b.small) : Run cfg X 14 [.agg b.cells] m0 (.bool (mayBlockR b)) m0 := by
  obtain ⟨⟨hf, hf'⟩, ⟨hr, hr'⟩, ⟨hk, hk'⟩, hs, hs'⟩ := h
  refine Run.fn [.tmp 2] [4] Tryz.func14 rfl (by simp [Tryz.ntmps14]) rfl rfl (by kernel_rfl) ?_
  simp [Bk.cells]
  repeat' (first
    | (first | (refine guardK_true ?_ ?_ <;> intro hg <;> ((have hg0 := hg); (try simp only [decide_eq_true_eq, decide_eq_false_iff_not, Bool.not_eq_true', Bool.not_eq_false', beq_iff_eq, beq_eq_false_iff_ne, bne_iff_ne, ne_eq, bne_eq_false_iff_eq, List.isEmpty_iff, List.isEmpty_eq_false_iff] at hg) <;> (try simp [hg0, hg]) <;> clear hg0) <;> (try (revert hg; intro _))) | (refine guardK_false ?_ ?_ <;> intro hg <;> ((have hg0 := hg); (try simp only [decide_eq_true_eq, decide_eq_false_iff_not, Bool.not_eq_true', Bool.not_eq_false', beq_iff_eq, beq_eq_false_iff_ne, bne_iff_ne, ne_eq, bne_eq_false_iff_eq, List.isEmpty_iff, List.isEmpty_eq_false_iff] at hg) <;> (try simp [hg0, hg]) <;> clear hg0) <;> (try (revert hg; intro _))) | (refine boolK_by ?_ ?_ <;> intro hg <;> ((have hg0 := hg); (try simp only [decide_eq_true_eq, decide_eq_false_iff_not, Bool.not_eq_true', Bool.not_eq_false', beq_iff_eq, beq_eq_false_iff_ne, bne_iff_ne, ne_eq, bne_eq_false_iff_eq, List.isEmpty_iff, List.isEmpty_eq_false_iff] at hg) <;> (try simp [hg0, hg]) <;> clear hg0) <;> (try (revert hg; intro _))))
    | (refine runK_of (f40 X b.scopes hs) ?_; simp))
  any_goals (simp [mayBlockR, *]; done)
  have hspec : mayBlockR b = if b.facts.all mayFactR = true then if b.rules.all mayRuleR = true then b.checks.all fun c => mayQsR c.queries else false else false := by simp only [mayBlockR, *]; simp
  refine wp_loop (fun n s => ∃ i : Nat, n = b.facts.length - i ∧ i ≤ b.facts.length ∧ b.facts.all mayFactR = (b.facts.drop i).all mayFactR ∧
      s = ⟨[(34, .int .i64 i), (33, .int .i64 b.facts.length), (32, .sl (b.facts.map Pd.cells)), (2, .bool false), (1, .ptr 0 0)], ⟨[b.cells], [], [], []⟩⟩)
    { env := [34, 33, 32, 2, 1] } b.facts.length ⟨0, by simp, by simp, by simp, by simp [Bk.cells]⟩ ?_
  rintro n s ⟨i, rfl, hi, hc, rfl⟩
  by_cases hlt : i < b.facts.length
  · have hbk : IntKind.i64.wrap ((i : Int) + 1) = (i : Int) + 1 := wrap64_id (by omega) (by omega)
    rw [all_drop _ hlt] at hc
    have hr := f25 X b.facts[i] (hf' _ (List.getElem_mem hlt))
    simp only [Pd.cells] at hr
    simp [hlt, Pd.cells, Bk.cells]
    refine runK_of hr ?_
    simp
    (first | (refine guardK_true ?_ ?_ <;> intro hg <;> ((have hg0 := hg); (try simp only [decide_eq_true_eq, decide_eq_false_iff_not, Bool.not_eq_true', Bool.not_eq_false', beq_iff_eq, beq_eq_false_iff_ne, bne_iff_ne, ne_eq, bne_eq_false_iff_eq, List.isEmpty_iff, List.isEmpty_eq_false_iff] at hg) <;> (try simp [hg0, hg]) <;> clear hg0) <;> (try (revert hg; intro _))) | (refine guardK_false ?_ ?_ <;> intro hg <;> ((have hg0 := hg); (try simp only [decide_eq_true_eq, decide_eq_false_iff_not, Bool.not_eq_true', Bool.not_eq_false', beq_iff_eq, beq_eq_false_iff_ne, bne_iff_ne, ne_eq, bne_eq_false_iff_eq, List.isEmpty_iff, List.isEmpty_eq_false_iff] at hg) <;> (try simp [hg0, hg]) <;> clear hg0) <;> (try (revert hg; intro _))) | (refine boolK_by ?_ ?_ <;> intro hg <;> ((have hg0 := hg); (try simp only [decide_eq_true_eq, decide_eq_false_iff_not, Bool.not_eq_true', Bool.not_eq_false', beq_iff_eq, beq_eq_false_iff_ne, bne_iff_ne, ne_eq, bne_eq_false_iff_eq, List.isEmpty_iff, List.isEmpty_eq_false_iff] at hg) <;> (try simp [hg0, hg]) <;> clear hg0) <;> (try (revert hg; intro _))))
    · rw [hspec, hc]
      simp [*]
    · refine loopK_back { env := [34, 33, 32, 2, 1] } (b.facts.length - (i + 1)) (by omega) ⟨i + 1, rfl, by omega, by rw [hc]; simp [*], ?_⟩
      simp [hbk, Bk.cells]
  · obtain rfl : i = b.facts.length := by omega
    rw [List.drop_length] at hc
    have hc' : b.facts.all mayFactR = true := hc
    rw [if_pos hc'] at hspec
    simp [Bk.cells]
    clear hc hlt hi
    refine wp_loop (fun n s => ∃ i : Nat, n = b.rules.length - i ∧ i ≤ b.rules.length ∧ b.rules.all mayRuleR = (b.rules.drop i).all mayRuleR ∧
        s = ⟨[(45, .int .i64 i), (44, .int .i64 b.rules.length), (43, .sl (b.rules.map Ru.cells)), (2, .bool false), (1, .ptr 0 0)], ⟨[b.cells], [], [], []⟩⟩)
      { env := [45, 44, 43, 2, 1] } b.rules.length ⟨0, by simp, by simp, by simp, by simp [Bk.cells]⟩ ?_
    rintro n s ⟨i, rfl, hi, hc, rfl⟩
    by_cases hlt : i < b.rules.length
    · have hbk : IntKind.i64.wrap ((i : Int) + 1) = (i : Int) + 1 := wrap64_id (by omega) (by omega)
      rw [all_drop _ hlt] at hc
      have hr := f41 X b.rules[i] (hr' _ (List.getElem_mem hlt))
      simp only [Ru.cells] at hr
      simp [hlt, Ru.cells, Bk.cells]
      refine runK_of hr ?_
      simp
      (first | (refine guardK_true ?_ ?_ <;> intro hg <;> ((have hg0 := hg); (try simp only [decide_eq_true_eq, decide_eq_false_iff_not, Bool.not_eq_true', Bool.not_eq_false', beq_iff_eq, beq_eq_false_iff_ne, bne_iff_ne, ne_eq, bne_eq_false_iff_eq, List.isEmpty_iff, List.isEmpty_eq_false_iff] at hg) <;> (try simp [hg0, hg]) <;> clear hg0) <;> (try (revert hg; intro _))) | (refine guardK_false ?_ ?_ <;> intro hg <;> ((have hg0 := hg); (try simp only [decide_eq_true_eq, decide_eq_false_iff_not, Bool.not_eq_true', Bool.not_eq_false', beq_iff_eq, beq_eq_false_iff_ne, bne_iff_ne, ne_eq, bne_eq_false_iff_eq, List.isEmpty_iff, List.isEmpty_eq_false_iff] at hg) <;> (try simp [hg0, hg]) <;> clear hg0) <;> (try (revert hg; intro _))) | (refine boolK_by ?_ ?_ <;> intro hg <;> ((have hg0 := hg); (try simp only [decide_eq_true_eq, decide_eq_false_iff_not, Bool.not_eq_true', Bool.not_eq_false', beq_iff_eq, beq_eq_false_iff_ne, bne_iff_ne, ne_eq, bne_eq_false_iff_eq, List.isEmpty_iff, List.isEmpty_eq_false_iff] at hg) <;> (try simp [hg0, hg]) <;> clear hg0) <;> (try (revert hg; intro _))))
      · rw [hspec, hc]
        simp [*]
      · refine loopK_back { env := [45, 44, 43, 2, 1] } (b.rules.length - (i + 1)) (by omega) ⟨i + 1, rfl, by omega, by rw [hc]; simp [*], ?_⟩
        simp [hbk, Bk.cells]
    · obtain rfl : i = b.rules.length := by omega
      rw [List.drop_length] at hc
      have hc2 : b.rules.all mayRuleR = true := hc
      rw [if_pos hc2] at hspec
      simp [Bk.cells]
      clear hc hlt hi
      refine wp_loop (fun n s => ∃ i : Nat, n = b.checks.length - i ∧ i ≤ b.checks.length ∧ mayBlockR b = ((b.checks.drop i).all fun c => mayQsR c.queries) ∧
          s = ⟨[(56, .int .i64 i), (55, .int .i64 b.checks.length), (54, .sl (b.checks.map Ck.cells)), (2, .bool false)], m0⟩)
        { env := [56, 55, 54, 2] } b.checks.length ⟨0, by simp, by simp, by simpa using hspec, by simp⟩ ?_
      rintro n s ⟨i, rfl, hi, hc, rfl⟩
      by_cases hlt : i < b.checks.length
      · have hbk : IntKind.i64.wrap ((i : Int) + 1) = (i : Int) + 1 := wrap64_id (by omega) (by omega)
        rw [all_drop _ hlt] at hc
        have hr := f42 X b.checks[i] (hk' _ (List.getElem_mem hlt))
        simp only [Ck.cells] at hr
        simp [hlt, Ck.cells]
        refine runK_of hr ?_
        simp
        (first | (refine guardK_true ?_ ?_ <;> intro hg <;> ((have hg0 := hg); (try simp only [decide_eq_true_eq, decide_eq_false_iff_not, Bool.not_eq_true', Bool.not_eq_false', beq_iff_eq, beq_eq_false_iff_ne, bne_iff_ne, ne_eq, bne_eq_false_iff_eq, List.isEmpty_iff, List.isEmpty_eq_false_iff] at hg) <;> (try simp [hg0, hg]) <;> clear hg0) <;> (try (revert hg; intro _))) | (refine guardK_false ?_ ?_ <;> intro hg <;> ((have hg0 := hg); (try simp only [decide_eq_true_eq, decide_eq_false_iff_not, Bool.not_eq_true', Bool.not_eq_false', beq_iff_eq, beq_eq_false_iff_ne, bne_iff_ne, ne_eq, bne_eq_false_iff_eq, List.isEmpty_iff, List.isEmpty_eq_false_iff] at hg) <;> (try simp [hg0, hg]) <;> clear hg0) <;> (try (revert hg; intro _))) | (refine boolK_by ?_ ?_ <;> intro hg <;> ((have hg0 := hg); (try simp only [decide_eq_true_eq, decide_eq_false_iff_not, Bool.not_eq_true', Bool.not_eq_false', beq_iff_eq, beq_eq_false_iff_ne, bne_iff_ne, ne_eq, bne_eq_false_iff_eq, List.isEmpty_iff, List.isEmpty_eq_false_iff] at hg) <;> (try simp [hg0, hg]) <;> clear hg0) <;> (try (revert hg; intro _))))
        · rw [hc]
          simp [*]
        · refine loopK_back { env := [56, 55, 54, 2] } (b.checks.length - (i + 1)) (by omega) ⟨i + 1, rfl, by omega, by rw [hc]; simp [*], ?_⟩
          simp [hbk]
      · obtain rfl : i = b.checks.length := by omega
        rw [List.drop_length] at hc
        have hc3 : mayBlockR b = true := hc
        simp [hc3]
end Go.Vm

namespace Go.Vm
open Go Go.Proofs Go.Lib
theorem mem_compact (zs : List S) (s : S) : s ∈ compact zs ↔ s ∈ zs := by
  unfold compact compactUpTo
  simp only [List.mem_map, List.mem_filter, List.mem_range]
  have hget : ∀ m (h : m < zs.length), zs.toArray[m]! = zs[m] := fun m h => by simp [getElem!_pos, h]
  constructor
  · rintro ⟨j, ⟨hj, _⟩, rfl⟩
    rw [hget j hj]
    exact List.getElem_mem hj
  · intro h
    obtain ⟨m, hm, rfl⟩ := List.getElem_of_mem h
    induction m using Nat.strongRecOn with
    | _ m ih =>
      by_cases hk : keeps zs.toArray m = true
      · exact ⟨m, ⟨hm, hk⟩, hget m hm⟩
      · simp only [keeps, decide_eq_true_eq, not_or, ne_eq, Decidable.not_not] at hk
        have h1 : m - 1 < zs.length := by omega
        obtain ⟨j, a, b⟩ := ih (m - 1) (by omega) h1 (List.getElem_mem h1)
        rw [hget m hm, hget (m - 1) h1] at hk
        exact ⟨j, a, by rw [b, hk.2]⟩
theorem sortS_mem (l : List S) (s : S) : s ∈ sortS l ↔ s ∈ l := by simp [sortS]
theorem sortS_sorted (l : List S) : (sortS l).Pairwise (· ≤ ·) := by
  have := List.pairwise_mergeSort (le := fun x y : S => decide (x ≤ y)) (fun a b c h k => by
    simp only [decide_eq_true_eq] at *
    exact List.le_trans h k) (fun a b => by
    simp only [Bool.or_eq_true, decide_eq_true_eq]
    exact List.le_total a b) l
  refine this.imp fun h => by simpa using h
theorem compact_strict (zs : List S) (h : zs.Pairwise (· ≤ ·)) : (compact zs).Pairwise (· < ·) := by
  have hget : ∀ m (h : m < zs.length), zs.toArray[m]! = zs[m] := fun m h => by simp [getElem!_pos, h]
  have hle : ∀ i j (hij : i ≤ j) (hj : j < zs.length), zs[i]'(by omega) ≤ zs[j] := fun i j hij hj => by
    by_cases he : i = j
    · subst he; exact List.le_refl _
    · exact List.pairwise_iff_getElem.1 h i j (by omega) hj (by omega)
  unfold compact compactUpTo
  rw [List.pairwise_map]
  have h0 : ((List.range zs.length).filter (keeps zs.toArray)).Pairwise (· < ·) := List.Pairwise.filter _ List.pairwise_lt_range
  refine List.Pairwise.imp_of_mem (fun {i j} hi hj hij => ?_) h0
  simp only [List.mem_filter, List.mem_range] at hi hj
  have hk := hj.2
  simp only [keeps, decide_eq_true_eq] at hk
  have hne : zs.toArray[j]! ≠ zs.toArray[j - 1]! := by
    rcases hk with h | h
    · omega
    · exact h
  rw [hget i hi.1, hget j hj.1]
  rw [hget j hj.1, hget (j - 1) (by omega)] at hne
  have h1 := hle i (j - 1) (by omega) (by omega)
  have h2 := hle (j - 1) j (by omega) hj.1
  have h3 : zs[j - 1]'(by omega) < zs[j] := by
    rcases List.le_iff_lt_or_eq.1 h2 with h | h
    · exact h
    · exact absurd h.symm hne
  exact List.lt_of_le_of_lt h1 h3
theorem strict_at {l : List S} (h : l.Pairwise (· < ·)) : ∀ (i j : Nat) (hij : i < j) (hj : j < l.length), l[i]'(by omega) < l[j] := fun i j hij hj => List.pairwise_iff_getElem.1 h i j (by omega) hj hij
theorem namesP_strict (l : List Pd) : ∀ (i j : Nat) (hij : i < j) (hj : j < (namesP l).length), (namesP l)[i]'(by omega) < (namesP l)[j] := strict_at (compact_strict _ (sortS_sorted _))
theorem namesP_mem (l : List Pd) (s : S) : s ∈ namesP l ↔ s ∈ varsP l := by simp [namesP, mem_compact, sortS_mem]
theorem namesO_mem (l : List OpT) (s : S) : s ∈ namesO l ↔ s ∈ varsO l := by simp [namesO, mem_compact, sortS_mem]
theorem compact_len (zs : List S) : (compact zs).length ≤ zs.length := by
  unfold compact compactUpTo
  rw [List.length_map]
  have := List.length_filter_le (keeps zs.toArray) (List.range zs.length)
  simpa using this
theorem namesP_len (l : List Pd) : (namesP l).length ≤ (varsP l).length := by
  have := compact_len (sortS (varsP l))
  rw [sortS_len] at this
  exact this
theorem namesO_len (l : List OpT) : (namesO l).length ≤ (varsO l).length := by
  have := compact_len (sortS (varsO l))
  rw [sortS_len] at this
  exact this
end Go.Vm

namespace Go.Vm
open Go Go.Proofs
def mayPredT (p : Pd) : Bool := if nameT p.name = true then if p.name = truS then false else if p.name = falS then false else fewTm mayT 8 p.terms else false
theorem f52 (X : CallRel) (p : Pd) (h : p.small) : Run cfg X 52 [.agg p.cells] m0 (.bool (mayPredT p)) m0 := by
  obtain ⟨h1, h2, h3⟩ := h
  have hf := f102 X 59 (by decide) (by decide) p.terms h2 8 mayT fun _ t ht => f59 X t (h3 t ht)
  refine Run.fn [.tmp 2] [4] Tryz.func52 rfl (by simp [Tryz.ntmps52]) rfl rfl (by kernel_rfl) ?_
  simp [Pd.cells]
  refine runK_of (f101 X p.name h1) ?_
  simp
  repeat' (first
    | (first | (refine guardK_true ?_ ?_ <;> intro hg <;> ((have hg0 := hg); (try simp only [decide_eq_true_eq, decide_eq_false_iff_not, Bool.not_eq_true', Bool.not_eq_false', beq_iff_eq, beq_eq_false_iff_ne, bne_iff_ne, ne_eq, bne_eq_false_iff_eq, List.isEmpty_iff, List.isEmpty_eq_false_iff] at hg) <;> (try simp [hg0, hg]) <;> clear hg0) <;> (try (revert hg; intro _))) | (refine guardK_false ?_ ?_ <;> intro hg <;> ((have hg0 := hg); (try simp only [decide_eq_true_eq, decide_eq_false_iff_not, Bool.not_eq_true', Bool.not_eq_false', beq_iff_eq, beq_eq_false_iff_ne, bne_iff_ne, ne_eq, bne_eq_false_iff_eq, List.isEmpty_iff, List.isEmpty_eq_false_iff] at hg) <;> (try simp [hg0, hg]) <;> clear hg0) <;> (try (revert hg; intro _))) | (refine boolK_by ?_ ?_ <;> intro hg <;> ((have hg0 := hg); (try simp only [decide_eq_true_eq, decide_eq_false_iff_not, Bool.not_eq_true', Bool.not_eq_false', beq_iff_eq, beq_eq_false_iff_ne, bne_iff_ne, ne_eq, bne_eq_false_iff_eq, List.isEmpty_iff, List.isEmpty_eq_false_iff] at hg) <;> (try simp [hg0, hg]) <;> clear hg0) <;> (try (revert hg; intro _))))
    | (refine runK_of hf ?_; simp))
  all_goals simp [mayPredT, truS, falS, *]
def fixT (t : Tm) : Bool := if t.kind = 1 then false else mayT t
def mayFactT (p : Pd) : Bool := if mayPredT p = true then fewTm fixT 8 p.terms else false
theorem f66 (X : CallRel) (p : Pd) (h : p.small) : Run cfg X 66 [.agg p.cells] m0 (.bool (mayFactT p)) m0 := by
  have hp := f52 X p h
  obtain ⟨h1, h2, h3⟩ := h
  have hf := f102 X 126 (by decide) (by decide) p.terms h2 8 fixT fun _ t ht => f126 X t (h3 t ht)
  refine Run.fn [.tmp 2] [4] Tryz.func66 rfl (by simp [Tryz.ntmps66]) rfl rfl (by kernel_rfl) ?_
  simp only [Pd.cells] at hp ⊢
  simp
  refine runK_of hp ?_
  simp
  repeat' (first
    | (first | (refine guardK_true ?_ ?_ <;> intro hg <;> ((have hg0 := hg); (try simp only [decide_eq_true_eq, decide_eq_false_iff_not, Bool.not_eq_true', Bool.not_eq_false', beq_iff_eq, beq_eq_false_iff_ne, bne_iff_ne, ne_eq, bne_eq_false_iff_eq, List.isEmpty_iff, List.isEmpty_eq_false_iff] at hg) <;> (try simp [hg0, hg]) <;> clear hg0) <;> (try (revert hg; intro _))) | (refine guardK_false ?_ ?_ <;> intro hg <;> ((have hg0 := hg); (try simp only [decide_eq_true_eq, decide_eq_false_iff_not, Bool.not_eq_true', Bool.not_eq_false', beq_iff_eq, beq_eq_false_iff_ne, bne_iff_ne, ne_eq, bne_eq_false_iff_eq, List.isEmpty_iff, List.isEmpty_eq_false_iff] at hg) <;> (try simp [hg0, hg]) <;> clear hg0) <;> (try (revert hg; intro _))) | (refine boolK_by ?_ ?_ <;> intro hg <;> ((have hg0 := hg); (try simp only [decide_eq_true_eq, decide_eq_false_iff_not, Bool.not_eq_true', Bool.not_eq_false', beq_iff_eq, beq_eq_false_iff_ne, bne_iff_ne, ne_eq, bne_eq_false_iff_eq, List.isEmpty_iff, List.isEmpty_eq_false_iff] at hg) <;> (try simp [hg0, hg]) <;> clear hg0) <;> (try (revert hg; intro _))))
    | (refine runK_of hf ?_; simp))
  all_goals simp [mayFactT, *]
theorem f92 (X : CallRel) (s : Sc) : Run cfg X 92 [.agg s.cells] m0 (.bool (mayScR s)) m0 := by
  refine Run.fn [.tmp 2] [4] Tryz.func92 rfl (by simp [Tryz.ntmps92]) rfl rfl (by kernel_rfl) ?_
  simp [Sc.cells]
  (repeat' (first | (first | (refine guardK_true ?_ ?_ <;> intro hg <;> ((have hg0 := hg); (try simp only [decide_eq_true_eq, decide_eq_false_iff_not, Bool.not_eq_true', Bool.not_eq_false', beq_iff_eq, beq_eq_false_iff_ne, bne_iff_ne, ne_eq, bne_eq_false_iff_eq, List.isEmpty_iff, List.isEmpty_eq_false_iff] at hg) <;> (try simp [hg0, hg]) <;> clear hg0) <;> (try (revert hg; intro _))) | (refine guardK_false ?_ ?_ <;> intro hg <;> ((have hg0 := hg); (try simp only [decide_eq_true_eq, decide_eq_false_iff_not, Bool.not_eq_true', Bool.not_eq_false', beq_iff_eq, beq_eq_false_iff_ne, bne_iff_ne, ne_eq, bne_eq_false_iff_eq, List.isEmpty_iff, List.isEmpty_eq_false_iff] at hg) <;> (try simp [hg0, hg]) <;> clear hg0) <;> (try (revert hg; intro _))) | (refine boolK_by ?_ ?_ <;> intro hg <;> ((have hg0 := hg); (try simp only [decide_eq_true_eq, decide_eq_false_iff_not, Bool.not_eq_true', Bool.not_eq_false', beq_iff_eq, beq_eq_false_iff_ne, bne_iff_ne, ne_eq, bne_eq_false_iff_eq, List.isEmpty_iff, List.isEmpty_eq_false_iff] at hg) <;> (try simp [hg0, hg]) <;> clear hg0) <;> (try (revert hg; intro _)))) | (refine And.intro ?_ ?_; (first | assumption | omega | kernel_rfl); try simp)))
  all_goals simp [mayScR, *]
theorem mayE_len {e : Exp} (h : mayE e = true) : e.length ≤ 32 := by
  unfold mayE at h
  split at h
  · omega
  · cases h
theorem f174 (X : CallRel) (hX : LibNm X) (e : Exp) (l : List S) (hsm : exSmall e) (hm : mayE e = true) (hlen : l.length ≤ 1000000) (hso : ∀ (i j : Nat) (hij : i < j) (hj : j < l.length), l[i]'(by omega) < l[j]) :
    Run cfg X 174 [.agg (exCells e), .ptr 0 0] (m1 (.sl (strs l))) (.bool (!knownR (namesO e) l)) (m1 (.sl (strs l))) := by
  have h1 := f175 X hX e hsm.2 hm
  have hl := mayE_len hm
  have h2 := f104 X (namesO e) l (by have := namesO_len e; have := varsO_len e; omega) hlen hso
  refine Run.fn [.tmp 3] [4] Tryz.func174 rfl (by simp [Tryz.ntmps174]) rfl rfl (by kernel_rfl) ?_
  simp [exCells, List.range_succ]
  refine runK_of h1 ?_
  simp
  refine runK_of h2 ?_
  simp
  try kernel_rfl
def mayBodyT (r : Ru) : Bool :=
  if fewPd mayPredT 4 r.body = false then false else if fewExp mayE 4 r.exprs = false then false else if fewSc mayScR 4 r.scopes = false then false else
  r.exprs.all fun e => knownR (namesO e) (namesP r.body)
theorem predT_terms {p : Pd} (h : mayPredT p = true) : p.terms.length ≤ 8 := by
  unfold mayPredT fewTm at h
  repeat' split at h
  all_goals first
    | cases h
    | omega
theorem f103 (X : CallRel) (hX : LibNm X) (r : Ru) (h : r.small) : Run cfg X 103 [.agg r.cells] m0 (.bool (mayBodyT r)) m0 := by
  obtain ⟨_, ⟨hb, hb'⟩, ⟨he, he'⟩, hs, hs'⟩ := h
  have h88 := f88 X 52 (by decide) (by decide) r.body hb 4 mayPredT fun _ p hp => f52 X p (hb' p hp)
  have h172 := f172 X 38 (by decide) (by decide) r.exprs he 4 mayE fun _ e hh => f38 X e (he' e hh).2
  have h91 := f91 X 92 (by decide) (by decide) r.scopes hs 4 mayScR fun _ s _ => f92 X s
  refine Run.fn [.tmp 2] [4] Tryz.func103 rfl (by simp [Tryz.ntmps103]) rfl rfl (by kernel_rfl) ?_
  simp [Ru.cells]
  refine runK_of h88 ?_
  simp
  repeat' (first
    | (first | (refine guardK_true ?_ ?_ <;> intro hg <;> ((have hg0 := hg); (try simp only [decide_eq_true_eq, decide_eq_false_iff_not, Bool.not_eq_true', Bool.not_eq_false', beq_iff_eq, beq_eq_false_iff_ne, bne_iff_ne, ne_eq, bne_eq_false_iff_eq, List.isEmpty_iff, List.isEmpty_eq_false_iff] at hg) <;> (try simp [hg0, hg]) <;> clear hg0) <;> (try (revert hg; intro _))) | (refine guardK_false ?_ ?_ <;> intro hg <;> ((have hg0 := hg); (try simp only [decide_eq_true_eq, decide_eq_false_iff_not, Bool.not_eq_true', Bool.not_eq_false', beq_iff_eq, beq_eq_false_iff_ne, bne_iff_ne, ne_eq, bne_eq_false_iff_eq, List.isEmpty_iff, List.isEmpty_eq_false_iff] at hg) <;> (try simp [hg0, hg]) <;> clear hg0) <;> (try (revert hg; intro _))) | (refine boolK_by ?_ ?_ <;> intro hg <;> ((have hg0 := hg); (try simp only [decide_eq_true_eq, decide_eq_false_iff_not, Bool.not_eq_true', Bool.not_eq_false', beq_iff_eq, beq_eq_false_iff_ne, bne_iff_ne, ne_eq, bne_eq_false_iff_eq, List.isEmpty_iff, List.isEmpty_eq_false_iff] at hg) <;> (try simp [hg0, hg]) <;> clear hg0) <;> (try (revert hg; intro _))))
    | (refine runK_of h172 ?_; simp)
    | (refine runK_of h91 ?_; simp))
  any_goals (simp [mayBodyT, *]; done)
  have q1 : fewPd mayPredT 4 r.body = true := by assumption
  have q2 : fewExp mayE 4 r.exprs = true := by assumption
  have q1' : (r.body.length : Int) ≤ 4 ∧ ∀ p ∈ r.body, mayPredT p = true := by
    unfold fewPd at q1
    split at q1
    · exact ⟨by assumption, List.all_eq_true.1 q1⟩
    · cases q1
  have q2' : ∀ e ∈ r.exprs, mayE e = true := by
    unfold fewExp at q2
    split at q2
    · exact List.all_eq_true.1 q2
    · cases q2
  have hv := varsP_len r.body fun p hp => predT_terms (q1'.2 p hp)
  have hn := namesP_len r.body
  refine runK_of (f105 X hX r.body hb (fun p hp => (hb' p hp).2.1) (by omega)) ?_
  simp
  have h173 := f173 X 174 (.sl (strs (namesP r.body))) rfl rfl (fun _ _ => rfl) (by decide) (by decide) r.exprs he (fun e => !knownR (namesO e) (namesP r.body)) fun e hh => f174 X hX e _ (he' e hh) (q2' e hh) (by omega) (namesP_strict r.body)
  refine runK_of h173 ?_
  simp [mayBodyT, *]
  rw [List.any_eq_not_all_not]
  simp
def mayQueryT (r : Ru) : Bool := if r.head.name = [] then if (r.head.terms.length : Int) = 0 then if 1 ≤ IntKind.i64.wrap ((r.body.length : Int) + r.exprs.length) then mayBodyT r else false else false else false
theorem f181 (X : CallRel) (hX : LibNm X) (r : Ru) (h : r.small) : Run cfg X 181 [.agg r.cells] m0 (.bool (mayQueryT r)) m0 := by
  have hb := f103 X hX r h
  simp only [Ru.cells] at hb
  refine Run.fn [.tmp 2] [4] Tryz.func181 rfl (by simp [Tryz.ntmps181]) rfl rfl (by kernel_rfl) ?_
  simp [Ru.cells]
  repeat' (first
    | (first | (refine guardK_true ?_ ?_ <;> intro hg <;> ((have hg0 := hg); (try simp only [decide_eq_true_eq, decide_eq_false_iff_not, Bool.not_eq_true', Bool.not_eq_false', beq_iff_eq, beq_eq_false_iff_ne, bne_iff_ne, ne_eq, bne_eq_false_iff_eq, List.isEmpty_iff, List.isEmpty_eq_false_iff] at hg) <;> (try simp [hg0, hg]) <;> clear hg0) <;> (try (revert hg; intro _))) | (refine guardK_false ?_ ?_ <;> intro hg <;> ((have hg0 := hg); (try simp only [decide_eq_true_eq, decide_eq_false_iff_not, Bool.not_eq_true', Bool.not_eq_false', beq_iff_eq, beq_eq_false_iff_ne, bne_iff_ne, ne_eq, bne_eq_false_iff_eq, List.isEmpty_iff, List.isEmpty_eq_false_iff] at hg) <;> (try simp [hg0, hg]) <;> clear hg0) <;> (try (revert hg; intro _))) | (refine boolK_by ?_ ?_ <;> intro hg <;> ((have hg0 := hg); (try simp only [decide_eq_true_eq, decide_eq_false_iff_not, Bool.not_eq_true', Bool.not_eq_false', beq_iff_eq, beq_eq_false_iff_ne, bne_iff_ne, ne_eq, bne_eq_false_iff_eq, List.isEmpty_iff, List.isEmpty_eq_false_iff] at hg) <;> (try simp [hg0, hg]) <;> clear hg0) <;> (try (revert hg; intro _))))
    | (refine runK_of (by simpa [*] using hb) ?_; simp))
  all_goals (simp [mayQueryT, *]; try (intro hh; simp [hh] at *))
theorem bodyT_terms {r : Ru} (h : mayBodyT r = true) : r.body.length ≤ 4 ∧ ∀ p ∈ r.body, p.terms.length ≤ 8 := by
  unfold mayBodyT at h
  split at h
  · cases h
  · rename_i h1
    have h1' : fewPd mayPredT 4 r.body = true := by simpa using h1
    unfold fewPd at h1'
    split at h1'
    · exact ⟨by omega, fun p hp => predT_terms (List.all_eq_true.1 h1' p hp)⟩
    · cases h1'
def mayRuleT (r : Ru) : Bool := if mayPredT r.head = true then if 1 ≤ (r.body.length : Int) then if mayBodyT r = true then knownR (namesP [r.head]) (namesP r.body) else false else false else false
theorem f53 (X : CallRel) (hX : LibNm X) (r : Ru) (h : r.small) : Run cfg X 53 [.agg r.cells] m0 (.bool (mayRuleT r)) m0 := by
  have hb := f103 X hX r h
  have hp := f52 X r.head h.1
  simp only [Ru.cells, Pd.cells] at hb hp
  refine Run.fn [.tmp 2] [4] Tryz.func53 rfl (by simp [Tryz.ntmps53]) rfl rfl (by kernel_rfl) ?_
  simp [Ru.cells, List.range_succ]
  refine runK_of hp ?_
  simp
  (first | (refine guardK_true ?_ ?_ <;> intro hg <;> ((have hg0 := hg); (try simp only [decide_eq_true_eq, decide_eq_false_iff_not, Bool.not_eq_true', Bool.not_eq_false', beq_iff_eq, beq_eq_false_iff_ne, bne_iff_ne, ne_eq, bne_eq_false_iff_eq, List.isEmpty_iff, List.isEmpty_eq_false_iff] at hg) <;> (try simp [hg0, hg]) <;> clear hg0) <;> (try (revert hg; intro _))) | (refine guardK_false ?_ ?_ <;> intro hg <;> ((have hg0 := hg); (try simp only [decide_eq_true_eq, decide_eq_false_iff_not, Bool.not_eq_true', Bool.not_eq_false', beq_iff_eq, beq_eq_false_iff_ne, bne_iff_ne, ne_eq, bne_eq_false_iff_eq, List.isEmpty_iff, List.isEmpty_eq_false_iff] at hg) <;> (try simp [hg0, hg]) <;> clear hg0) <;> (try (revert hg; intro _))) | (refine boolK_by ?_ ?_ <;> intro hg <;> ((have hg0 := hg); (try simp only [decide_eq_true_eq, decide_eq_false_iff_not, Bool.not_eq_true', Bool.not_eq_false', beq_iff_eq, beq_eq_false_iff_ne, bne_iff_ne, ne_eq, bne_eq_false_iff_eq, List.isEmpty_iff, List.isEmpty_eq_false_iff] at hg) <;> (try simp [hg0, hg]) <;> clear hg0) <;> (try (revert hg; intro _))))
  · (first | (refine guardK_true ?_ ?_ <;> intro hg <;> ((have hg0 := hg); (try simp only [decide_eq_true_eq, decide_eq_false_iff_not, Bool.not_eq_true', Bool.not_eq_false', beq_iff_eq, beq_eq_false_iff_ne, bne_iff_ne, ne_eq, bne_eq_false_iff_eq, List.isEmpty_iff, List.isEmpty_eq_false_iff] at hg) <;> (try simp [hg0, hg]) <;> clear hg0) <;> (try (revert hg; intro _))) | (refine guardK_false ?_ ?_ <;> intro hg <;> ((have hg0 := hg); (try simp only [decide_eq_true_eq, decide_eq_false_iff_not, Bool.not_eq_true', Bool.not_eq_false', beq_iff_eq, beq_eq_false_iff_ne, bne_iff_ne, ne_eq, bne_eq_false_iff_eq, List.isEmpty_iff, List.isEmpty_eq_false_iff] at hg) <;> (try simp [hg0, hg]) <;> clear hg0) <;> (try (revert hg; intro _))) | (refine boolK_by ?_ ?_ <;> intro hg <;> ((have hg0 := hg); (try simp only [decide_eq_true_eq, decide_eq_false_iff_not, Bool.not_eq_true', Bool.not_eq_false', beq_iff_eq, beq_eq_false_iff_ne, bne_iff_ne, ne_eq, bne_eq_false_iff_eq, List.isEmpty_iff, List.isEmpty_eq_false_iff] at hg) <;> (try simp [hg0, hg]) <;> clear hg0) <;> (try (revert hg; intro _))))
    · refine runK_of hb ?_
      simp
      (first | (refine guardK_true ?_ ?_ <;> intro hg <;> ((have hg0 := hg); (try simp only [decide_eq_true_eq, decide_eq_false_iff_not, Bool.not_eq_true', Bool.not_eq_false', beq_iff_eq, beq_eq_false_iff_ne, bne_iff_ne, ne_eq, bne_eq_false_iff_eq, List.isEmpty_iff, List.isEmpty_eq_false_iff] at hg) <;> (try simp [hg0, hg]) <;> clear hg0) <;> (try (revert hg; intro _))) | (refine guardK_false ?_ ?_ <;> intro hg <;> ((have hg0 := hg); (try simp only [decide_eq_true_eq, decide_eq_false_iff_not, Bool.not_eq_true', Bool.not_eq_false', beq_iff_eq, beq_eq_false_iff_ne, bne_iff_ne, ne_eq, bne_eq_false_iff_eq, List.isEmpty_iff, List.isEmpty_eq_false_iff] at hg) <;> (try simp [hg0, hg]) <;> clear hg0) <;> (try (revert hg; intro _))) | (refine boolK_by ?_ ?_ <;> intro hg <;> ((have hg0 := hg); (try simp only [decide_eq_true_eq, decide_eq_false_iff_not, Bool.not_eq_true', Bool.not_eq_false', beq_iff_eq, beq_eq_false_iff_ne, bne_iff_ne, ne_eq, bne_eq_false_iff_eq, List.isEmpty_iff, List.isEmpty_eq_false_iff] at hg) <;> (try simp [hg0, hg]) <;> clear hg0) <;> (try (revert hg; intro _))))
      · rename_i h1 h2 h3
        have hq := predT_terms h1
        have hbt := bodyT_terms h3
        have hv := varsP_len r.body hbt.2
        have hv1 := varsP_len [r.head] (by simpa using hq)
        have hn := namesP_len r.body
        have hn1 := namesP_len [r.head]
        simp only [List.length_cons, List.length_nil] at hv1
        refine runK_of (by simpa [Pd.cells] using f105 X hX [r.head] (by simp) (by simpa using h.1.2.1) (by omega)) ?_
        simp
        refine runK_of (f105 X hX r.body h.2.1.1 (fun p hp => (h.2.1.2 p hp).2.1) (by omega)) ?_
        simp
        refine runK_of (f104 X _ _ (by omega) (by omega) (namesP_strict r.body)) ?_
        simp
        refine ⟨by kernel_rfl, ?_⟩
        simp [mayRuleT, *]
      · refine ⟨by kernel_rfl, ?_⟩
        simp [mayRuleT, *]
    · refine ⟨by kernel_rfl, ?_⟩
      simp [mayRuleT, *]
  · refine ⟨by kernel_rfl, ?_⟩
    simp [mayRuleT, *]
def mayQsT (l : List Ru) : Bool := if 1 ≤ (l.length : Int) then fewRu mayQueryT 8 l else false
theorem f106 (X : CallRel) (hX : LibNm X) (l : List Ru) (hl : l.length ≤ 9223372036854775807) (hs : ∀ r ∈ l, r.small) : Run cfg X 106 [.sl (l.map Ru.cells)] m0 (.bool (mayQsT l)) m0 := by
  have h := f89 X 181 (by decide) (by decide) l hl 8 mayQueryT fun _ r hr => f181 X hX r (hs r hr)
  refine Run.fn [.tmp 2] [4] Tryz.func106 rfl (by simp [Tryz.ntmps106]) rfl rfl (by kernel_rfl) ?_
  simp
  repeat' (first
    | (first | (refine guardK_true ?_ ?_ <;> intro hg <;> ((have hg0 := hg); (try simp only [decide_eq_true_eq, decide_eq_false_iff_not, Bool.not_eq_true', Bool.not_eq_false', beq_iff_eq, beq_eq_false_iff_ne, bne_iff_ne, ne_eq, bne_eq_false_iff_eq, List.isEmpty_iff, List.isEmpty_eq_false_iff] at hg) <;> (try simp [hg0, hg]) <;> clear hg0) <;> (try (revert hg; intro _))) | (refine guardK_false ?_ ?_ <;> intro hg <;> ((have hg0 := hg); (try simp only [decide_eq_true_eq, decide_eq_false_iff_not, Bool.not_eq_true', Bool.not_eq_false', beq_iff_eq, beq_eq_false_iff_ne, bne_iff_ne, ne_eq, bne_eq_false_iff_eq, List.isEmpty_iff, List.isEmpty_eq_false_iff] at hg) <;> (try simp [hg0, hg]) <;> clear hg0) <;> (try (revert hg; intro _))) | (refine boolK_by ?_ ?_ <;> intro hg <;> ((have hg0 := hg); (try simp only [decide_eq_true_eq, decide_eq_false_iff_not, Bool.not_eq_true', Bool.not_eq_false', beq_iff_eq, beq_eq_false_iff_ne, bne_iff_ne, ne_eq, bne_eq_false_iff_eq, List.isEmpty_iff, List.isEmpty_eq_false_iff] at hg) <;> (try simp [hg0, hg]) <;> clear hg0) <;> (try (revert hg; intro _))))
    | (refine runK_of h ?_; simp))
  all_goals simp [mayQsT, *]
def mayCheckT (c : Ck) : Bool := mayQsT c.queries
theorem f54 (X : CallRel) (hX : LibNm X) (c : Ck) (h : c.small) : Run cfg X 54 [.agg c.cells] m0 (.bool (mayCheckT c)) m0 := by
  refine Run.fn [.tmp 2] [4] Tryz.func54 rfl (by simp [Tryz.ntmps54]) rfl rfl (by kernel_rfl) ?_
  simp [Ck.cells]
  refine runK_of (f106 X hX c.queries h.1 h.2) ?_
  simp [mayCheckT]
def mayBlockT (b : Bk) : Bool := if fewPd mayFactT 32 b.facts = true then if fewRu mayRuleT 32 b.rules = true then if fewCk mayCheckT 32 b.checks = true then fewSc mayScR 4 b.scopes else false else false else false
theorem f43 (X : CallRel) (hX : LibNm X) (b : Bk) (h : b.small) : Run cfg X 43 [.agg b.cells] m0 (.bool (mayBlockT b)) m0 := by
  obtain ⟨⟨hf, hf'⟩, ⟨hr, hr'⟩, ⟨hk, hk'⟩, hs, hs'⟩ := h
  have h1 := f88 X 66 (by decide) (by decide) b.facts hf 32 mayFactT fun _ p hp => f66 X p (hf' p hp)
  have h2 := f89 X 53 (by decide) (by decide) b.rules hr 32 mayRuleT fun _ r hh => f53 X hX r (hr' r hh)
  have h3 := f90 X 54 (by decide) (by decide) b.checks hk 32 mayCheckT fun _ c hh => f54 X hX c (hk' c hh)
  have h4 := f91 X 92 (by decide) (by decide) b.scopes hs 4 mayScR fun _ s _ => f92 X s
  refine Run.fn [.tmp 2] [4] Tryz.func43 rfl (by simp [Tryz.ntmps43]) rfl rfl (by kernel_rfl) ?_
  simp [Bk.cells]
  refine runK_of h1 ?_
  simp
  repeat' (first
    | (first | (refine guardK_true ?_ ?_ <;> intro hg <;> ((have hg0 := hg); (try simp only [decide_eq_true_eq, decide_eq_false_iff_not, Bool.not_eq_true', Bool.not_eq_false', beq_iff_eq, beq_eq_false_iff_ne, bne_iff_ne, ne_eq, bne_eq_false_iff_eq, List.isEmpty_iff, List.isEmpty_eq_false_iff] at hg) <;> (try simp [hg0, hg]) <;> clear hg0) <;> (try (revert hg; intro _))) | (refine guardK_false ?_ ?_ <;> intro hg <;> ((have hg0 := hg); (try simp only [decide_eq_true_eq, decide_eq_false_iff_not, Bool.not_eq_true', Bool.not_eq_false', beq_iff_eq, beq_eq_false_iff_ne, bne_iff_ne, ne_eq, bne_eq_false_iff_eq, List.isEmpty_iff, List.isEmpty_eq_false_iff] at hg) <;> (try simp [hg0, hg]) <;> clear hg0) <;> (try (revert hg; intro _))) | (refine boolK_by ?_ ?_ <;> intro hg <;> ((have hg0 := hg); (try simp only [decide_eq_true_eq, decide_eq_false_iff_not, Bool.not_eq_true', Bool.not_eq_false', beq_iff_eq, beq_eq_false_iff_ne, bne_iff_ne, ne_eq, bne_eq_false_iff_eq, List.isEmpty_iff, List.isEmpty_eq_false_iff] at hg) <;> (try simp [hg0, hg]) <;> clear hg0) <;> (try (revert hg; intro _))))
    | (refine runK_of h2 ?_; simp)
    | (refine runK_of h3 ?_; simp)
    | (refine runK_of h4 ?_; simp))
  all_goals simp [mayBlockT, *]
end Go.Vm
