/- What functions compute that PrintParts reaches: texts of blocks, weights, the law itself. Conditions: lengths are an int's; the library's contracts. -/
import Derived.Test.YtbbpfakobaiglaaGreatDoorWalkC
import Derived.Test.YtbbpfakobaiglaaGreatDoorWalkB
set_option linter.unusedVariables false
set_option linter.unusedSimpArgs false
namespace Go.Vm
open Go Go.Proofs
theorem f44 (X : CallRel) (g : FuncId) (tx : Sc → S) (xs : List Sc) (sep : S) (hlen : xs.length ≤ 1000) (h179 : ¬ g = 179) (h180 : ¬ g = 180) (hg : ∀ x ∈ xs, Run cfg X g [.agg (Sc.cells x)] m0 (.str (bs (tx x))) m0)
    (hj : Run cfg X 93 [.sl ((xs.map tx).map fun s => [.str (bs s)]), .str (bs sep)] m0 (.str (bs (joinS sep (xs.map tx)))) m0) :
    Run cfg X 44 [.sl (xs.map Sc.cells), .fn (.func g) [] [], .str (bs sep)] m0 (.str (bs (joinS sep (xs.map tx)))) m0 := by
  refine Run.fn [.tmp 6] [9] Tryz.func44 rfl (by simp [Tryz.ntmps44]) rfl rfl (by kernel_rfl) ?_
  simp
  refine wp_loop (fun n s => ∃ i : Nat, n = xs.length - i ∧ i ≤ xs.length ∧ s = ⟨[(12, .int .i64 i), (11, .int .i64 xs.length), (10, .sl (xs.map Sc.cells)), (7, .osl 0), (1, .fn (.func g) [] []), (2, .str (bs sep))],
      ⟨[], [.live 9 1 ((xs.take i).map fun x => [.str (bs (tx x))])], [], []⟩⟩) { env := [12, 11, 10, 7, 1, 2], nils := [(7, 9, 1)] } xs.length ⟨0, by simp, by simp, by simp []⟩ ?_
  rintro n s ⟨i, rfl, hi, rfl⟩
  by_cases hlt : i < xs.length
  · have hm := hg xs[i] (List.getElem_mem hlt)
    simp only [Sc.cells] at hm
    simp [hlt, Sc.cells, h179, h180]
    refine runK_of hm ?_
    simp []
    refine ⟨by simp [allLen, roomy]; omega, loopK_back { env := [12, 11, 10, 7, 1, 2] } (xs.length - (i + 1)) (by omega) ⟨i + 1, rfl, by omega, ?_⟩⟩
    simp [wrap64_id (n := (i : Int) + 1) (by omega) (by omega)]
    rw [List.take_add_one]; simp [hlt]
  · obtain rfl : i = xs.length := by omega
    simp []
    refine runK_of (by simpa [Function.comp_def] using hj) ?_
    simp []
theorem f72 (X : CallRel) (g : FuncId) (tx : Ru → S) (xs : List Ru) (sep : S) (hlen : xs.length ≤ 1000) (h179 : ¬ g = 179) (h180 : ¬ g = 180) (hg : ∀ x ∈ xs, Run cfg X g [.agg (Ru.cells x)] m0 (.str (bs (tx x))) m0)
    (hj : Run cfg X 93 [.sl ((xs.map tx).map fun s => [.str (bs s)]), .str (bs sep)] m0 (.str (bs (joinS sep (xs.map tx)))) m0) :
    Run cfg X 72 [.sl (xs.map Ru.cells), .fn (.func g) [] [], .str (bs sep)] m0 (.str (bs (joinS sep (xs.map tx)))) m0 := by
  refine Run.fn [.tmp 6] [9] Tryz.func72 rfl (by simp [Tryz.ntmps72]) rfl rfl (by kernel_rfl) ?_
  simp
  refine wp_loop (fun n s => ∃ i : Nat, n = xs.length - i ∧ i ≤ xs.length ∧ s = ⟨[(12, .int .i64 i), (11, .int .i64 xs.length), (10, .sl (xs.map Ru.cells)), (7, .osl 0), (1, .fn (.func g) [] []), (2, .str (bs sep))],
      ⟨[], [.live 9 1 ((xs.take i).map fun x => [.str (bs (tx x))])], [], []⟩⟩) { env := [12, 11, 10, 7, 1, 2], nils := [(7, 9, 1)] } xs.length ⟨0, by simp, by simp, by simp []⟩ ?_
  rintro n s ⟨i, rfl, hi, rfl⟩
  by_cases hlt : i < xs.length
  · have hm := hg xs[i] (List.getElem_mem hlt)
    simp only [Ru.cells] at hm
    simp [hlt, Ru.cells, h179, h180]
    refine runK_of hm ?_
    simp []
    refine ⟨by simp [allLen, roomy]; omega, loopK_back { env := [12, 11, 10, 7, 1, 2] } (xs.length - (i + 1)) (by omega) ⟨i + 1, rfl, by omega, ?_⟩⟩
    simp [wrap64_id (n := (i : Int) + 1) (by omega) (by omega)]
    rw [List.take_add_one]; simp [hlt]
  · obtain rfl : i = xs.length := by omega
    simp []
    refine runK_of (by simpa [Function.comp_def] using hj) ?_
    simp []
theorem f72b (X : CallRel) (g : FuncId) (w : V) (hw1 : w.ptrs = []) (hw2 : w.tks = []) (hw3 : ∀ p q, w.ren p q = w) (tx : Ru → S) (xs : List Ru) (sep : S) (hlen : xs.length ≤ 1000) (h179 : ¬ g = 179) (h180 : ¬ g = 180) (hg : ∀ x ∈ xs, Run cfg X g [.agg (Ru.cells x), .ptr 0 0] (m1 w) (.str (bs (tx x))) (m1 w))
    (hj : Run cfg X 93 [.sl ((xs.map tx).map fun s => [.str (bs s)]), .str (bs sep)] m0 (.str (bs (joinS sep (xs.map tx)))) m0) :
    Run cfg X 72 [.sl (xs.map Ru.cells), .fn (.func g) [] [.ptr 0 0], .str (bs sep)] (m1 w) (.str (bs (joinS sep (xs.map tx)))) (m1 w) := by
  refine Run.fn [.tmp 6] [9] Tryz.func72 rfl (by simp [Tryz.ntmps72]) rfl rfl (by kernel_rfl) ?_
  simp
  refine wp_loop (fun n s => ∃ i : Nat, n = xs.length - i ∧ i ≤ xs.length ∧ s = ⟨[(12, .int .i64 i), (11, .int .i64 xs.length), (10, .sl (xs.map Ru.cells)), (7, .osl 0), (1, .fn (.func g) [] [.ptr 0 0]), (2, .str (bs sep))],
      ⟨[[w]], [.live 9 1 ((xs.take i).map fun x => [.str (bs (tx x))])], [], []⟩⟩) { env := [12, 11, 10, 7, 1, 2], nils := [(7, 9, 1)] } xs.length ⟨0, by simp, by simp, by simp [hw1, hw2, hw3]⟩ ?_
  rintro n s ⟨i, rfl, hi, rfl⟩
  by_cases hlt : i < xs.length
  · have hm := hg xs[i] (List.getElem_mem hlt)
    simp only [Ru.cells] at hm
    simp [hlt, Ru.cells, h179, h180, hw1, hw2, hw3]
    refine runK_of hm ?_
    simp [hw1, hw2, hw3]
    refine ⟨by simp [allLen, roomy]; omega, loopK_back { env := [12, 11, 10, 7, 1, 2] } (xs.length - (i + 1)) (by omega) ⟨i + 1, rfl, by omega, ?_⟩⟩
    simp [wrap64_id (n := (i : Int) + 1) (by omega) (by omega), hw1, hw2, hw3]
    rw [List.take_add_one]; simp [hlt]
  · obtain rfl : i = xs.length := by omega
    simp [hw1, hw2, hw3]
    refine runK_of (by simpa [Function.comp_def] using hj) ?_
    simp [hw1, hw2, hw3]
theorem f95b (X : CallRel) (g : FuncId) (w : V) (hw1 : w.ptrs = []) (hw2 : w.tks = []) (hw3 : ∀ p q, w.ren p q = w) (tx : Pd → S) (xs : List Pd) (sep : S) (hlen : xs.length ≤ 1000) (h179 : ¬ g = 179) (h180 : ¬ g = 180) (hg : ∀ x ∈ xs, Run cfg X g [.agg (Pd.cells x), .ptr 0 0] (m1 w) (.str (bs (tx x))) (m1 w))
    (hj : Run cfg X 93 [.sl ((xs.map tx).map fun s => [.str (bs s)]), .str (bs sep)] m0 (.str (bs (joinS sep (xs.map tx)))) m0) :
    Run cfg X 95 [.sl (xs.map Pd.cells), .fn (.func g) [] [.ptr 0 0], .str (bs sep)] (m1 w) (.str (bs (joinS sep (xs.map tx)))) (m1 w) := by
  refine Run.fn [.tmp 6] [9] Tryz.func95 rfl (by simp [Tryz.ntmps95]) rfl rfl (by kernel_rfl) ?_
  simp
  refine wp_loop (fun n s => ∃ i : Nat, n = xs.length - i ∧ i ≤ xs.length ∧ s = ⟨[(12, .int .i64 i), (11, .int .i64 xs.length), (10, .sl (xs.map Pd.cells)), (7, .osl 0), (1, .fn (.func g) [] [.ptr 0 0]), (2, .str (bs sep))],
      ⟨[[w]], [.live 9 1 ((xs.take i).map fun x => [.str (bs (tx x))])], [], []⟩⟩) { env := [12, 11, 10, 7, 1, 2], nils := [(7, 9, 1)] } xs.length ⟨0, by simp, by simp, by simp [hw1, hw2, hw3]⟩ ?_
  rintro n s ⟨i, rfl, hi, rfl⟩
  by_cases hlt : i < xs.length
  · have hm := hg xs[i] (List.getElem_mem hlt)
    simp only [Pd.cells] at hm
    simp [hlt, Pd.cells, h179, h180, hw1, hw2, hw3]
    refine runK_of hm ?_
    simp [hw1, hw2, hw3]
    refine ⟨by simp [allLen, roomy]; omega, loopK_back { env := [12, 11, 10, 7, 1, 2] } (xs.length - (i + 1)) (by omega) ⟨i + 1, rfl, by omega, ?_⟩⟩
    simp [wrap64_id (n := (i : Int) + 1) (by omega) (by omega), hw1, hw2, hw3]
    rw [List.take_add_one]; simp [hlt]
  · obtain rfl : i = xs.length := by omega
    simp [hw1, hw2, hw3]
    refine runK_of (by simpa [Function.comp_def] using hj) ?_
    simp [hw1, hw2, hw3]
theorem f99b (X : CallRel) (g : FuncId) (w : V) (hw1 : w.ptrs = []) (hw2 : w.tks = []) (hw3 : ∀ p q, w.ren p q = w) (tx : Ck → S) (xs : List Ck) (sep : S) (hlen : xs.length ≤ 1000) (h179 : ¬ g = 179) (h180 : ¬ g = 180) (hg : ∀ x ∈ xs, Run cfg X g [.agg (Ck.cells x), .ptr 0 0] (m1 w) (.str (bs (tx x))) (m1 w))
    (hj : Run cfg X 93 [.sl ((xs.map tx).map fun s => [.str (bs s)]), .str (bs sep)] m0 (.str (bs (joinS sep (xs.map tx)))) m0) :
    Run cfg X 99 [.sl (xs.map Ck.cells), .fn (.func g) [] [.ptr 0 0], .str (bs sep)] (m1 w) (.str (bs (joinS sep (xs.map tx)))) (m1 w) := by
  refine Run.fn [.tmp 6] [9] Tryz.func99 rfl (by simp [Tryz.ntmps99]) rfl rfl (by kernel_rfl) ?_
  simp
  refine wp_loop (fun n s => ∃ i : Nat, n = xs.length - i ∧ i ≤ xs.length ∧ s = ⟨[(12, .int .i64 i), (11, .int .i64 xs.length), (10, .sl (xs.map Ck.cells)), (7, .osl 0), (1, .fn (.func g) [] [.ptr 0 0]), (2, .str (bs sep))],
      ⟨[[w]], [.live 9 1 ((xs.take i).map fun x => [.str (bs (tx x))])], [], []⟩⟩) { env := [12, 11, 10, 7, 1, 2], nils := [(7, 9, 1)] } xs.length ⟨0, by simp, by simp, by simp [hw1, hw2, hw3]⟩ ?_
  rintro n s ⟨i, rfl, hi, rfl⟩
  by_cases hlt : i < xs.length
  · have hm := hg xs[i] (List.getElem_mem hlt)
    simp only [Ck.cells] at hm
    simp [hlt, Ck.cells, h179, h180, hw1, hw2, hw3]
    refine runK_of hm ?_
    simp [hw1, hw2, hw3]
    refine ⟨by simp [allLen, roomy]; omega, loopK_back { env := [12, 11, 10, 7, 1, 2] } (xs.length - (i + 1)) (by omega) ⟨i + 1, rfl, by omega, ?_⟩⟩
    simp [wrap64_id (n := (i : Int) + 1) (by omega) (by omega), hw1, hw2, hw3]
    rw [List.take_add_one]; simp [hlt]
  · obtain rfl : i = xs.length := by omega
    simp [hw1, hw2, hw3]
    refine runK_of (by simpa [Function.comp_def] using hj) ?_
    simp [hw1, hw2, hw3]
end Go.Vm

namespace Go.Vm
open Go Go.Proofs
/-- Within these bounds each text can be made. -/
def okP (p : Pd) : Prop := p.name.length ≤ 32 ∧ p.terms.length ≤ 8 ∧ ∀ t ∈ p.terms, okT t
def okE (e : Exp) : Prop := e.length ≤ 32 ∧ okOps e
def okS (s : Sc) : Prop := s.key.length ≤ 32
def okB (r : Ru) : Prop := (r.body.length ≤ 4 ∧ ∀ p ∈ r.body, okP p) ∧ (r.exprs.length ≤ 4 ∧ ∀ e ∈ r.exprs, okE e) ∧ r.scopes.length ≤ 4 ∧ ∀ s ∈ r.scopes, okS s
def okC (c : Ck) : Prop := c.queries.length ≤ 8 ∧ ∀ r ∈ c.queries, okB r
def okK (b : Bk) : Prop := (b.facts.length ≤ 32 ∧ ∀ p ∈ b.facts, okP p) ∧ (b.rules.length ≤ 32 ∧ ∀ r ∈ b.rules, okP r.head ∧ okB r) ∧ (b.checks.length ≤ 32 ∧ ∀ c ∈ b.checks, okC c) ∧ b.scopes.length ≤ 4 ∧ ∀ s ∈ b.scopes, okS s
theorem joinMap_len {α : Type} (sep : S) (f : α → S) (l : List α) (n : Nat) (h : ∀ x ∈ l, (f x).length ≤ n) : (joinS sep (l.map f)).length ≤ l.length * (n + sep.length) := by
  have := joinS_len sep n (l.map f) fun s hs => by
    obtain ⟨x, hx, rfl⟩ := List.mem_map.1 hs
    exact h x hx
  simpa using this
def scopeS (s : Sc) : S := if s.kind = 1 then [97, 117, 116, 104, 111, 114, 105, 116, 121] else if s.kind = 2 then [112, 114, 101, 118, 105, 111, 117, 115] else [101, 100, 50, 53, 53, 49, 57, 47] ++ hexS s.key
theorem scope_len {s : Sc} (h : okS s) : (scopeS s).length ≤ 100 := by
  have h1 : s.key.length ≤ 32 := h
  have := hexS_length s.key
  unfold scopeS
  repeat' split
  all_goals simp only [List.length_append, List.length_cons, List.length_nil]
  all_goals omega
theorem f45 (X : CallRel) (s : Sc) (h : okS s) : Run cfg X 45 [.agg s.cells] m0 (.str (bs (scopeS s))) m0 := by
  have h1 : s.key.length ≤ 32 := h
  have hl := hexS_length s.key
  refine Run.fn [.tmp 2] [9] Tryz.func45 rfl (by simp [Tryz.ntmps45]) rfl rfl (by kernel_rfl) ?_
  simp [Sc.cells]
  (first | (refine guardK_true ?_ ?_ <;> intro hg <;> ((have hg0 := hg); (try simp only [decide_eq_true_eq, decide_eq_false_iff_not, Bool.not_eq_true', Bool.not_eq_false', beq_iff_eq, beq_eq_false_iff_ne, bne_iff_ne, ne_eq, bne_eq_false_iff_eq, List.isEmpty_iff, List.isEmpty_eq_false_iff] at hg) <;> (try simp [hg0, hg]) <;> clear hg0) <;> (try (revert hg; intro _))) | (refine guardK_false ?_ ?_ <;> intro hg <;> ((have hg0 := hg); (try simp only [decide_eq_true_eq, decide_eq_false_iff_not, Bool.not_eq_true', Bool.not_eq_false', beq_iff_eq, beq_eq_false_iff_ne, bne_iff_ne, ne_eq, bne_eq_false_iff_eq, List.isEmpty_iff, List.isEmpty_eq_false_iff] at hg) <;> (try simp [hg0, hg]) <;> clear hg0) <;> (try (revert hg; intro _))) | (refine boolK_by ?_ ?_ <;> intro hg <;> ((have hg0 := hg); (try simp only [decide_eq_true_eq, decide_eq_false_iff_not, Bool.not_eq_true', Bool.not_eq_false', beq_iff_eq, beq_eq_false_iff_ne, bne_iff_ne, ne_eq, bne_eq_false_iff_eq, List.isEmpty_iff, List.isEmpty_eq_false_iff] at hg) <;> (try simp [hg0, hg]) <;> clear hg0) <;> (try (revert hg; intro _))))
  · simp [scopeS, *]
  · (first | (refine guardK_true ?_ ?_ <;> intro hg <;> ((have hg0 := hg); (try simp only [decide_eq_true_eq, decide_eq_false_iff_not, Bool.not_eq_true', Bool.not_eq_false', beq_iff_eq, beq_eq_false_iff_ne, bne_iff_ne, ne_eq, bne_eq_false_iff_eq, List.isEmpty_iff, List.isEmpty_eq_false_iff] at hg) <;> (try simp [hg0, hg]) <;> clear hg0) <;> (try (revert hg; intro _))) | (refine guardK_false ?_ ?_ <;> intro hg <;> ((have hg0 := hg); (try simp only [decide_eq_true_eq, decide_eq_false_iff_not, Bool.not_eq_true', Bool.not_eq_false', beq_iff_eq, beq_eq_false_iff_ne, bne_iff_ne, ne_eq, bne_eq_false_iff_eq, List.isEmpty_iff, List.isEmpty_eq_false_iff] at hg) <;> (try simp [hg0, hg]) <;> clear hg0) <;> (try (revert hg; intro _))) | (refine boolK_by ?_ ?_ <;> intro hg <;> ((have hg0 := hg); (try simp only [decide_eq_true_eq, decide_eq_false_iff_not, Bool.not_eq_true', Bool.not_eq_false', beq_iff_eq, beq_eq_false_iff_ne, bne_iff_ne, ne_eq, bne_eq_false_iff_eq, List.isEmpty_iff, List.isEmpty_eq_false_iff] at hg) <;> (try simp [hg0, hg]) <;> clear hg0) <;> (try (revert hg; intro _))))
    · simp [scopeS, *]
    · refine runK_of (f94 X s.key (by omega)) ?_
      simp [scopeS, *]
      omega
def predS (p : Pd) : S := p.name ++ [40] ++ joinS [44, 32] (p.terms.map wr) ++ [41]
theorem pred_len {p : Pd} (h : okP p) : (predS p).length ≤ 150000 := by
  obtain ⟨h1, h2, h3⟩ := h
  have := joinMap_len [44, 32] wr p.terms 17640 fun t ht => wr_len (h3 t ht)
  simp only [predS, List.length_append, List.length_cons, List.length_nil] at *
  omega
theorem f47 (X : CallRel) (hX : LibOk X) (p : Pd) (h : okP p) : Run cfg X 47 [.agg p.cells] m0 (.str (bs (predS p))) m0 := by
  obtain ⟨h1, h2, h3⟩ := h
  have hl := joinMap_len [44, 32] wr p.terms 17640 fun t ht => wr_len (h3 t ht)
  simp only [List.length_cons, List.length_nil] at hl
  have hj := f97 X 60 wr p.terms [44, 32] (by omega) (by decide) (by decide) (fun t ht => f60 X hX t (h3 t ht)) (hX.join _ _ (by simp; omega) (by omega))
  refine Run.fn [.tmp 2] [9] Tryz.func47 rfl (by simp [Tryz.ntmps47]) rfl rfl (by kernel_rfl) ?_
  simp [Pd.cells, List.range_succ]
  refine ⟨by omega, ?_⟩
  refine runK_of hj ?_
  simp
  refine ⟨by omega, by omega, by kernel_rfl, ?_⟩
  simp [predS]
def linesS {α : Type} (tx : α → S) (l : List α) : S := joinS [] (l.map fun x => tx x ++ [59, 10])
theorem lines_len {α : Type} (tx : α → S) (l : List α) (hlen : l.length ≤ 32) (htx : ∀ x ∈ l, (tx x).length ≤ 1000000000) : (linesS tx l).length ≤ 100000000000 := by
  have := joinMap_len [] (fun x => tx x ++ [59, 10]) l 1000000002 fun x hx => by
    have := htx x hx
    simp only [List.length_append, List.length_cons, List.length_nil]
    omega
  unfold linesS
  simp only [List.length_nil] at this
  omega
theorem f96 (X : CallRel) (g : FuncId) (h179 : ¬ g = 179) (h180 : ¬ g = 180) (x : Pd) (t : S) (ht : t.length ≤ 1000000000) (hg : Run cfg X g [.agg (Pd.cells x)] m0 (.str (bs t)) m0) :
    Run cfg X 96 [.agg (Pd.cells x), .ptr 0 0] (m1 (.fn (.func g) [] [])) (.str (bs (t ++ [59, 10]))) (m1 (.fn (.func g) [] [])) := by
  refine Run.fn [.tmp 3] [9] Tryz.func96 rfl (by simp [Tryz.ntmps96]) rfl rfl (by kernel_rfl) ?_
  simp only [Pd.cells] at hg
  simp [Pd.cells, h179, h180]
  refine runK_of hg ?_
  simp
  omega
theorem f46 (X : CallRel) (hX : LibOk X) (g : FuncId) (h179 : ¬ g = 179) (h180 : ¬ g = 180) (tx : Pd → S) (xs : List Pd) (hlen : xs.length ≤ 32) (htx : ∀ x ∈ xs, (tx x).length ≤ 1000000000) (hg : ∀ x ∈ xs, Run cfg X g [.agg (Pd.cells x)] m0 (.str (bs (tx x))) m0) :
    Run cfg X 46 [.sl (xs.map Pd.cells), .fn (.func g) [] []] m0 (.str (bs (linesS tx xs))) m0 := by
  have hl := lines_len tx xs hlen htx
  have hj := f95b X 96 (.fn (.func g) [] []) rfl rfl (fun _ _ => rfl) (fun x => tx x ++ [59, 10]) xs [] (by omega) (by decide) (by decide) (fun x hx => f96 X g h179 h180 x (tx x) (htx x hx) (hg x hx)) (hX.join _ _ (by simp; omega) (by simpa [linesS] using hl))
  refine Run.fn [.tmp 4] [9] Tryz.func46 rfl (by simp [Tryz.ntmps46]) rfl rfl (by kernel_rfl) ?_
  simp
  refine runK_of hj ?_
  simp [linesS]
theorem f98 (X : CallRel) (g : FuncId) (h179 : ¬ g = 179) (h180 : ¬ g = 180) (x : Ru) (t : S) (ht : t.length ≤ 1000000000) (hg : Run cfg X g [.agg (Ru.cells x)] m0 (.str (bs t)) m0) :
    Run cfg X 98 [.agg (Ru.cells x), .ptr 0 0] (m1 (.fn (.func g) [] [])) (.str (bs (t ++ [59, 10]))) (m1 (.fn (.func g) [] [])) := by
  refine Run.fn [.tmp 3] [9] Tryz.func98 rfl (by simp [Tryz.ntmps98]) rfl rfl (by kernel_rfl) ?_
  simp only [Ru.cells] at hg
  simp [Ru.cells, h179, h180]
  refine runK_of hg ?_
  simp
  omega
theorem f48 (X : CallRel) (hX : LibOk X) (g : FuncId) (h179 : ¬ g = 179) (h180 : ¬ g = 180) (tx : Ru → S) (xs : List Ru) (hlen : xs.length ≤ 32) (htx : ∀ x ∈ xs, (tx x).length ≤ 1000000000) (hg : ∀ x ∈ xs, Run cfg X g [.agg (Ru.cells x)] m0 (.str (bs (tx x))) m0) :
    Run cfg X 48 [.sl (xs.map Ru.cells), .fn (.func g) [] []] m0 (.str (bs (linesS tx xs))) m0 := by
  have hl := lines_len tx xs hlen htx
  have hj := f72b X 98 (.fn (.func g) [] []) rfl rfl (fun _ _ => rfl) (fun x => tx x ++ [59, 10]) xs [] (by omega) (by decide) (by decide) (fun x hx => f98 X g h179 h180 x (tx x) (htx x hx) (hg x hx)) (hX.join _ _ (by simp; omega) (by simpa [linesS] using hl))
  refine Run.fn [.tmp 4] [9] Tryz.func48 rfl (by simp [Tryz.ntmps48]) rfl rfl (by kernel_rfl) ?_
  simp
  refine runK_of hj ?_
  simp [linesS]
theorem f100 (X : CallRel) (g : FuncId) (h179 : ¬ g = 179) (h180 : ¬ g = 180) (x : Ck) (t : S) (ht : t.length ≤ 1000000000) (hg : Run cfg X g [.agg (Ck.cells x)] m0 (.str (bs t)) m0) :
    Run cfg X 100 [.agg (Ck.cells x), .ptr 0 0] (m1 (.fn (.func g) [] [])) (.str (bs (t ++ [59, 10]))) (m1 (.fn (.func g) [] [])) := by
  refine Run.fn [.tmp 3] [9] Tryz.func100 rfl (by simp [Tryz.ntmps100]) rfl rfl (by kernel_rfl) ?_
  simp only [Ck.cells] at hg
  simp [Ck.cells, h179, h180]
  refine runK_of hg ?_
  simp
  omega
theorem f50 (X : CallRel) (hX : LibOk X) (g : FuncId) (h179 : ¬ g = 179) (h180 : ¬ g = 180) (tx : Ck → S) (xs : List Ck) (hlen : xs.length ≤ 32) (htx : ∀ x ∈ xs, (tx x).length ≤ 1000000000) (hg : ∀ x ∈ xs, Run cfg X g [.agg (Ck.cells x)] m0 (.str (bs (tx x))) m0) :
    Run cfg X 50 [.sl (xs.map Ck.cells), .fn (.func g) [] []] m0 (.str (bs (linesS tx xs))) m0 := by
  have hl := lines_len tx xs hlen htx
  have hj := f99b X 100 (.fn (.func g) [] []) rfl rfl (fun _ _ => rfl) (fun x => tx x ++ [59, 10]) xs [] (by omega) (by decide) (by decide) (fun x hx => f100 X g h179 h180 x (tx x) (htx x hx) (hg x hx)) (hX.join _ _ (by simp; omega) (by simpa [linesS] using hl))
  refine Run.fn [.tmp 4] [9] Tryz.func50 rfl (by simp [Tryz.ntmps50]) rfl rfl (by kernel_rfl) ?_
  simp
  refine runK_of hj ?_
  simp [linesS]
theorem map_drop_cons {α β : Type} (f : α → β) {l : List α} {i : Nat} (h : i < l.length) : (l.drop i).map f = f l[i] :: (l.drop (i + 1)).map f := by
  rw [List.drop_eq_getElem_cons h]; rfl
theorem expr_text_len {e : Exp} (h : okE e) : (exprS e).length ≤ 640000 := by
  obtain ⟨h1, h2, h3, y, hy⟩ := h
  have := opsGo_tot leafR _ e [] [y] (Nat.lt_succ_self _) (fun o ho hk => leaf_len (h2 o ho hk)) hy
  simp only [exprS, hy]
  simp only [tot] at this
  omega
def bodyS (r : Ru) : S :=
  let s := joinS [44, 32] (r.body.map predS ++ r.exprs.map exprS)
  if 0 < (r.scopes.length : Int) then s ++ ([32, 116, 114, 117, 115, 116, 105, 110, 103, 32] ++ joinS [44, 32] (r.scopes.map scopeS)) else s
theorem parts_len {r : Ru} (h : okB r) : (joinS [44, 32] (r.body.map predS ++ r.exprs.map exprS)).length ≤ 5200000 := by
  obtain ⟨⟨h1, h2⟩, ⟨h3, h4⟩, _⟩ := h
  have := joinS_len [44, 32] 640000 (r.body.map predS ++ r.exprs.map exprS) fun s hs => by
    rcases List.mem_append.1 hs with hs | hs
    · obtain ⟨p, hp, rfl⟩ := List.mem_map.1 hs
      have := pred_len (h2 p hp)
      omega
    · obtain ⟨e, he, rfl⟩ := List.mem_map.1 hs
      exact expr_text_len (h4 e he)
  simp only [List.length_append, List.length_map, List.length_cons, List.length_nil] at this
  omega
theorem scopes_len {l : List Sc} (h : l.length ≤ 4) (h' : ∀ s ∈ l, okS s) : (joinS [44, 32] (l.map scopeS)).length ≤ 1000 := by
  have := joinMap_len [44, 32] scopeS l 100 fun s hs => scope_len (h' s hs)
  simp only [List.length_cons, List.length_nil] at this
  omega
theorem body_len {r : Ru} (h : okB r) : (bodyS r).length ≤ 6000000 := by
  have h1 := parts_len h
  have h2 := scopes_len h.2.2.1 h.2.2.2
  simp only [bodyS]
  split
  · simp only [List.length_append, List.length_cons, List.length_nil] at *
    omega
  · omega
theorem f44' (X : CallRel) (hX : LibOk X) (l : List Sc) (h : l.length ≤ 4) (h' : ∀ s ∈ l, okS s) :
    Run cfg X 44 [.sl (l.map Sc.cells), .fn (.func 45) [] [], .str (bs [44, 32])] m0 (.str (bs (joinS [44, 32] (l.map scopeS)))) m0 := by
  have h2 := scopes_len h h'
  exact f44 X 45 scopeS l [44, 32] (by omega) (by decide) (by decide) (fun s hs => f45 X s (h' s hs)) (hX.join _ _ (by simp; omega) (by omega))
theorem f73 (X : CallRel) (hX : LibOk X) (r : Ru) (h : okB r) : Run cfg X 73 [.agg r.cells] m0 (.str (bs (bodyS r))) m0 := by
  have hpl := parts_len h
  have hsl := scopes_len h.2.2.1 h.2.2.2
  have h44 := f44' X hX r.scopes h.2.2.1 h.2.2.2
  obtain ⟨⟨h1, h2⟩, ⟨h3, h4⟩, h5, h6⟩ := h
  refine Run.fn [.tmp 2] [9] Tryz.func73 rfl (by simp [Tryz.ntmps73]) rfl rfl (by kernel_rfl) ?_
  simp [Ru.cells]
  refine wp_loop (fun n s => ∃ i : Nat, n = r.body.length - i ∧ i ≤ r.body.length ∧ ∃ o : List S, o ++ (r.body.drop i).map predS = r.body.map predS ∧
      s = ⟨[(12, .int .i64 i), (11, .int .i64 r.body.length), (10, .sl (r.body.map Pd.cells)), (3, .osl 0), (1, .ptr 0 0)], ⟨[r.cells], [.live 9 1 (strs o)], [], []⟩⟩)
    { env := [12, 11, 10, 3, 1], nils := [(3, 9, 1)] } r.body.length ⟨0, by simp, by simp, [], by simp, by simp [Ru.cells]⟩ ?_
  rintro n s ⟨i, rfl, hi, o, ho, rfl⟩
  by_cases hlt : i < r.body.length
  · rw [map_drop_cons _ hlt] at ho
    have hbk : IntKind.i64.wrap ((i : Int) + 1) = (i : Int) + 1 := wrap64_id (by omega) (by omega)
    have hol := congrArg List.length ho
    simp only [List.length_append, List.length_map, List.length_cons] at hol
    have hr := f47 X hX r.body[i] (h2 _ (List.getElem_mem hlt))
    simp only [Pd.cells] at hr
    simp [hlt, Pd.cells, Ru.cells]
    refine runK_of hr ?_
    simp
    refine ⟨⟨by simp [allLen], by simp [roomy]; omega, by omega⟩, loopK_back { env := [12, 11, 10, 3, 1] } (r.body.length - (i + 1)) (by omega) ⟨i + 1, rfl, by omega, o ++ [predS r.body[i]], by rw [List.append_assoc]; simpa using ho, ?_⟩⟩
    simp [hbk, Ru.cells]
  · obtain rfl : i = r.body.length := by omega
    simp at ho
    subst ho
    simp [Ru.cells]
    refine wp_loop (fun n s => ∃ i : Nat, n = r.exprs.length - i ∧ i ≤ r.exprs.length ∧ ∃ o : List S, o ++ (r.exprs.drop i).map exprS = r.body.map predS ++ r.exprs.map exprS ∧
        s = ⟨[(25, .int .i64 i), (24, .int .i64 r.exprs.length), (23, .sl (r.exprs.map exCells)), (3, .osl 0), (1, .ptr 0 0)], ⟨[r.cells], [.live 9 1 (strs o)], [], []⟩⟩)
      { env := [25, 24, 23, 3, 1] } r.exprs.length ⟨0, by simp, by simp, r.body.map predS, by simp, by simp [Ru.cells]⟩ ?_
    rintro n s ⟨i, rfl, hi, o, ho, rfl⟩
    by_cases hlt : i < r.exprs.length
    · rw [map_drop_cons _ hlt] at ho
      have hbk : IntKind.i64.wrap ((i : Int) + 1) = (i : Int) + 1 := wrap64_id (by omega) (by omega)
      have hol := congrArg List.length ho
      simp only [List.length_append, List.length_map, List.length_cons] at hol
      have hq := h4 _ (List.getElem_mem hlt)
      have hr := f39 X hX r.exprs[i] (by have := hq.1; omega) hq.2
      simp [hlt, exCells, Ru.cells]
      refine runK_of hr ?_
      simp
      refine ⟨⟨by simp [allLen], by simp [roomy]; omega, by omega⟩, loopK_back { env := [25, 24, 23, 3, 1] } (r.exprs.length - (i + 1)) (by omega) ⟨i + 1, rfl, by omega, o ++ [exprS r.exprs[i]], by rw [List.append_assoc]; simpa using ho, ?_⟩⟩
      simp [hbk, Ru.cells]
    · obtain rfl : i = r.exprs.length := by omega
      simp at ho
      subst ho
      simp [Ru.cells]
      refine runK_of (hX.join (r.body.map predS ++ r.exprs.map exprS) [44, 32] (by simp; omega) (by omega)) ?_
      simp
      (first | (refine guardK_true ?_ ?_ <;> intro hg <;> ((have hg0 := hg); (try simp only [decide_eq_true_eq, decide_eq_false_iff_not, Bool.not_eq_true', Bool.not_eq_false', beq_iff_eq, beq_eq_false_iff_ne, bne_iff_ne, ne_eq, bne_eq_false_iff_eq, List.isEmpty_iff, List.isEmpty_eq_false_iff] at hg) <;> (try simp [hg0, hg]) <;> clear hg0) <;> (try (revert hg; intro _))) | (refine guardK_false ?_ ?_ <;> intro hg <;> ((have hg0 := hg); (try simp only [decide_eq_true_eq, decide_eq_false_iff_not, Bool.not_eq_true', Bool.not_eq_false', beq_iff_eq, beq_eq_false_iff_ne, bne_iff_ne, ne_eq, bne_eq_false_iff_eq, List.isEmpty_iff, List.isEmpty_eq_false_iff] at hg) <;> (try simp [hg0, hg]) <;> clear hg0) <;> (try (revert hg; intro _))) | (refine boolK_by ?_ ?_ <;> intro hg <;> ((have hg0 := hg); (try simp only [decide_eq_true_eq, decide_eq_false_iff_not, Bool.not_eq_true', Bool.not_eq_false', beq_iff_eq, beq_eq_false_iff_ne, bne_iff_ne, ne_eq, bne_eq_false_iff_eq, List.isEmpty_iff, List.isEmpty_eq_false_iff] at hg) <;> (try simp [hg0, hg]) <;> clear hg0) <;> (try (revert hg; intro _))))
      · refine runK_of h44 ?_
        simp [bodyS, *]
        exact ⟨by omega, by omega⟩
      · simp [bodyS, *]
def ruleS (r : Ru) : S := predS r.head ++ [32, 60, 45, 32] ++ bodyS r
theorem rule_len {r : Ru} (hp : okP r.head) (h : okB r) : (ruleS r).length ≤ 7000000 := by
  have h1 := pred_len hp
  have h2 := body_len h
  simp only [ruleS, List.length_append, List.length_cons, List.length_nil]
  omega
theorem f49 (X : CallRel) (hX : LibOk X) (r : Ru) (hp : okP r.head) (h : okB r) : Run cfg X 49 [.agg r.cells] m0 (.str (bs (ruleS r))) m0 := by
  have h1 := pred_len hp
  have h2 := body_len h
  have hb := f73 X hX r h
  have hh := f47 X hX r.head hp
  simp only [Ru.cells, Pd.cells] at hb hh
  refine Run.fn [.tmp 2] [9] Tryz.func49 rfl (by simp [Tryz.ntmps49]) rfl rfl (by kernel_rfl) ?_
  simp [Ru.cells, List.range_succ]
  refine runK_of hh ?_
  simp
  refine ⟨by omega, ?_⟩
  refine runK_of hb ?_
  simp
  refine ⟨by omega, by kernel_rfl, ?_⟩
  simp [ruleS]
def checkS (c : Ck) : S := (if c.all = true then [99, 104, 101, 99, 107, 32, 97, 108, 108, 32] else [99, 104, 101, 99, 107, 32, 105, 102, 32]) ++ joinS [32, 111, 114, 32] (c.queries.map bodyS)
theorem queries_len {l : List Ru} (h : l.length ≤ 8) (h' : ∀ r ∈ l, okB r) : (joinS [32, 111, 114, 32] (l.map bodyS)).length ≤ 50000000 := by
  have := joinMap_len [32, 111, 114, 32] bodyS l 6000000 fun r hr => body_len (h' r hr)
  simp only [List.length_cons, List.length_nil] at this
  omega
theorem check_len {c : Ck} (h : okC c) : (checkS c).length ≤ 60000000 := by
  have := queries_len h.1 h.2
  simp only [checkS, List.length_append]
  split <;> simp only [List.length_cons, List.length_nil] <;> omega
theorem f51 (X : CallRel) (hX : LibOk X) (c : Ck) (h : okC c) : Run cfg X 51 [.agg c.cells] m0 (.str (bs (checkS c))) m0 := by
  have hq := queries_len h.1 h.2
  have hj := f72 X 73 bodyS c.queries [32, 111, 114, 32] (by have := h.1; omega) (by decide) (by decide) (fun r hr => f73 X hX r (h.2 r hr)) (hX.join _ _ (by have := h.1; simp; omega) (by omega))
  refine Run.fn [.tmp 2] [9] Tryz.func51 rfl (by simp [Tryz.ntmps51]) rfl rfl (by kernel_rfl) ?_
  simp [Ck.cells]
  (first | (refine guardK_true ?_ ?_ <;> intro hg <;> ((have hg0 := hg); (try simp only [decide_eq_true_eq, decide_eq_false_iff_not, Bool.not_eq_true', Bool.not_eq_false', beq_iff_eq, beq_eq_false_iff_ne, bne_iff_ne, ne_eq, bne_eq_false_iff_eq, List.isEmpty_iff, List.isEmpty_eq_false_iff] at hg) <;> (try simp [hg0, hg]) <;> clear hg0) <;> (try (revert hg; intro _))) | (refine guardK_false ?_ ?_ <;> intro hg <;> ((have hg0 := hg); (try simp only [decide_eq_true_eq, decide_eq_false_iff_not, Bool.not_eq_true', Bool.not_eq_false', beq_iff_eq, beq_eq_false_iff_ne, bne_iff_ne, ne_eq, bne_eq_false_iff_eq, List.isEmpty_iff, List.isEmpty_eq_false_iff] at hg) <;> (try simp [hg0, hg]) <;> clear hg0) <;> (try (revert hg; intro _))) | (refine boolK_by ?_ ?_ <;> intro hg <;> ((have hg0 := hg); (try simp only [decide_eq_true_eq, decide_eq_false_iff_not, Bool.not_eq_true', Bool.not_eq_false', beq_iff_eq, beq_eq_false_iff_ne, bne_iff_ne, ne_eq, bne_eq_false_iff_eq, List.isEmpty_iff, List.isEmpty_eq_false_iff] at hg) <;> (try simp [hg0, hg]) <;> clear hg0) <;> (try (revert hg; intro _))))
  · refine runK_of hj ?_
    simp [checkS, *]
    omega
  · refine runK_of hj ?_
    simp [checkS, *]
    omega
def trustS (l : List Sc) : S := if 0 < (l.length : Int) then [116, 114, 117, 115, 116, 105, 110, 103, 32] ++ joinS [44, 32] (l.map scopeS) ++ [59, 10] else []
def blockS (b : Bk) : S := trustS b.scopes ++ linesS predS b.facts ++ linesS ruleS b.rules ++ linesS checkS b.checks
def printBlk (b : Bk) : S := if mayBlockT b = true then blockS b else []
theorem f15 (X : CallRel) (hX : LibOk X) (hN : LibNm X) (b : Bk) (hs : b.small) (hk : mayBlockT b = true → okK b) : Run cfg X 15 [.agg b.cells] m0 (.str (bs (printBlk b))) m0 := by
  have h43 := f43 X hN b hs
  simp only [Bk.cells] at h43
  refine Run.fn [.tmp 2] [9] Tryz.func15 rfl (by simp [Tryz.ntmps15]) rfl rfl (by kernel_rfl) ?_
  simp [Bk.cells, List.range_succ]
  refine runK_of h43 ?_
  simp
  (first | (refine guardK_true ?_ ?_ <;> intro hg <;> ((have hg0 := hg); (try simp only [decide_eq_true_eq, decide_eq_false_iff_not, Bool.not_eq_true', Bool.not_eq_false', beq_iff_eq, beq_eq_false_iff_ne, bne_iff_ne, ne_eq, bne_eq_false_iff_eq, List.isEmpty_iff, List.isEmpty_eq_false_iff] at hg) <;> (try simp [hg0, hg]) <;> clear hg0) <;> (try (revert hg; intro _))) | (refine guardK_false ?_ ?_ <;> intro hg <;> ((have hg0 := hg); (try simp only [decide_eq_true_eq, decide_eq_false_iff_not, Bool.not_eq_true', Bool.not_eq_false', beq_iff_eq, beq_eq_false_iff_ne, bne_iff_ne, ne_eq, bne_eq_false_iff_eq, List.isEmpty_iff, List.isEmpty_eq_false_iff] at hg) <;> (try simp [hg0, hg]) <;> clear hg0) <;> (try (revert hg; intro _))) | (refine boolK_by ?_ ?_ <;> intro hg <;> ((have hg0 := hg); (try simp only [decide_eq_true_eq, decide_eq_false_iff_not, Bool.not_eq_true', Bool.not_eq_false', beq_iff_eq, beq_eq_false_iff_ne, bne_iff_ne, ne_eq, bne_eq_false_iff_eq, List.isEmpty_iff, List.isEmpty_eq_false_iff] at hg) <;> (try simp [hg0, hg]) <;> clear hg0) <;> (try (revert hg; intro _))))
  · simp [printBlk, *]
  · rename_i hm
    obtain ⟨⟨f1, f2⟩, ⟨r1, r2⟩, ⟨k1, k2⟩, s1, s2⟩ := hk hm
    have h44 := f44' X hX b.scopes s1 s2
    have hsl := scopes_len s1 s2
    have l1 := lines_len predS b.facts f1 fun p hp => by have := pred_len (f2 p hp); omega
    have l2 := lines_len ruleS b.rules r1 fun r hr => by have := rule_len (r2 r hr).1 (r2 r hr).2; omega
    have l3 := lines_len checkS b.checks k1 fun c hc => by have := check_len (k2 c hc); omega
    have h46 := f46 X hX 47 (by decide) (by decide) predS b.facts f1 (fun p hp => by have := pred_len (f2 p hp); omega) fun p hp => f47 X hX p (f2 p hp)
    have h48 := f48 X hX 49 (by decide) (by decide) ruleS b.rules r1 (fun r hr => by have := rule_len (r2 r hr).1 (r2 r hr).2; omega) fun r hr => f49 X hX r (r2 r hr).1 (r2 r hr).2
    have h50 := f50 X hX 51 (by decide) (by decide) checkS b.checks k1 (fun c hc => by have := check_len (k2 c hc); omega) fun c hc => f51 X hX c (k2 c hc)
    (first | (refine guardK_true ?_ ?_ <;> intro hg <;> ((have hg0 := hg); (try simp only [decide_eq_true_eq, decide_eq_false_iff_not, Bool.not_eq_true', Bool.not_eq_false', beq_iff_eq, beq_eq_false_iff_ne, bne_iff_ne, ne_eq, bne_eq_false_iff_eq, List.isEmpty_iff, List.isEmpty_eq_false_iff] at hg) <;> (try simp [hg0, hg]) <;> clear hg0) <;> (try (revert hg; intro _))) | (refine guardK_false ?_ ?_ <;> intro hg <;> ((have hg0 := hg); (try simp only [decide_eq_true_eq, decide_eq_false_iff_not, Bool.not_eq_true', Bool.not_eq_false', beq_iff_eq, beq_eq_false_iff_ne, bne_iff_ne, ne_eq, bne_eq_false_iff_eq, List.isEmpty_iff, List.isEmpty_eq_false_iff] at hg) <;> (try simp [hg0, hg]) <;> clear hg0) <;> (try (revert hg; intro _))) | (refine boolK_by ?_ ?_ <;> intro hg <;> ((have hg0 := hg); (try simp only [decide_eq_true_eq, decide_eq_false_iff_not, Bool.not_eq_true', Bool.not_eq_false', beq_iff_eq, beq_eq_false_iff_ne, bne_iff_ne, ne_eq, bne_eq_false_iff_eq, List.isEmpty_iff, List.isEmpty_eq_false_iff] at hg) <;> (try simp [hg0, hg]) <;> clear hg0) <;> (try (revert hg; intro _))))
    · refine runK_of h44 ?_
      simp
      refine ⟨by omega, by omega, ?_⟩
      refine runK_of h46 ?_
      simp
      refine ⟨by omega, ?_⟩
      refine runK_of h48 ?_
      simp
      refine ⟨by omega, ?_⟩
      refine runK_of h50 ?_
      simp
      refine ⟨by omega, by kernel_rfl, ?_⟩
      simp [printBlk, blockS, trustS, *]
    · refine runK_of h46 ?_
      simp
      refine ⟨by omega, ?_⟩
      refine runK_of h48 ?_
      simp
      refine ⟨by omega, ?_⟩
      refine runK_of h50 ?_
      simp
      refine ⟨by omega, by kernel_rfl, ?_⟩
      simp [printBlk, blockS, trustS, *]
def printPd (p : Pd) : S := if mayPredT p = true then predS p else []
theorem f16 (X : CallRel) (hX : LibOk X) (p : Pd) (hs : p.small) (hk : mayPredT p = true → okP p) : Run cfg X 16 [.agg p.cells] m0 (.str (bs (printPd p))) m0 := by
  have h := f52 X p hs
  have hw := fun hm => f47 X hX p (hk hm)
  simp only [Pd.cells] at h hw
  refine Run.fn [.tmp 2] [9] Tryz.func16 rfl (by simp [Tryz.ntmps16]) rfl rfl (by kernel_rfl) ?_
  simp [Pd.cells]
  refine runK_of h ?_
  simp
  (first | (refine guardK_true ?_ ?_ <;> intro hg <;> ((have hg0 := hg); (try simp only [decide_eq_true_eq, decide_eq_false_iff_not, Bool.not_eq_true', Bool.not_eq_false', beq_iff_eq, beq_eq_false_iff_ne, bne_iff_ne, ne_eq, bne_eq_false_iff_eq, List.isEmpty_iff, List.isEmpty_eq_false_iff] at hg) <;> (try simp [hg0, hg]) <;> clear hg0) <;> (try (revert hg; intro _))) | (refine guardK_false ?_ ?_ <;> intro hg <;> ((have hg0 := hg); (try simp only [decide_eq_true_eq, decide_eq_false_iff_not, Bool.not_eq_true', Bool.not_eq_false', beq_iff_eq, beq_eq_false_iff_ne, bne_iff_ne, ne_eq, bne_eq_false_iff_eq, List.isEmpty_iff, List.isEmpty_eq_false_iff] at hg) <;> (try simp [hg0, hg]) <;> clear hg0) <;> (try (revert hg; intro _))) | (refine boolK_by ?_ ?_ <;> intro hg <;> ((have hg0 := hg); (try simp only [decide_eq_true_eq, decide_eq_false_iff_not, Bool.not_eq_true', Bool.not_eq_false', beq_iff_eq, beq_eq_false_iff_ne, bne_iff_ne, ne_eq, bne_eq_false_iff_eq, List.isEmpty_iff, List.isEmpty_eq_false_iff] at hg) <;> (try simp [hg0, hg]) <;> clear hg0) <;> (try (revert hg; intro _))))
  · simp [printPd, *]
  · rename_i hm
    refine runK_of (hw hm) ?_
    simp [printPd, *]
def printRu (r : Ru) : S := if mayRuleT r = true then ruleS r else []
theorem f17 (X : CallRel) (hX : LibOk X) (hN : LibNm X) (r : Ru) (hs : r.small) (hk : mayRuleT r = true → okP r.head ∧ okB r) : Run cfg X 17 [.agg r.cells] m0 (.str (bs (printRu r))) m0 := by
  have h := f53 X hN r hs
  have hw := fun hm => f49 X hX r (hk hm).1 (hk hm).2
  simp only [Ru.cells] at h hw
  refine Run.fn [.tmp 2] [9] Tryz.func17 rfl (by simp [Tryz.ntmps17]) rfl rfl (by kernel_rfl) ?_
  simp [Ru.cells]
  refine runK_of h ?_
  simp
  (first | (refine guardK_true ?_ ?_ <;> intro hg <;> ((have hg0 := hg); (try simp only [decide_eq_true_eq, decide_eq_false_iff_not, Bool.not_eq_true', Bool.not_eq_false', beq_iff_eq, beq_eq_false_iff_ne, bne_iff_ne, ne_eq, bne_eq_false_iff_eq, List.isEmpty_iff, List.isEmpty_eq_false_iff] at hg) <;> (try simp [hg0, hg]) <;> clear hg0) <;> (try (revert hg; intro _))) | (refine guardK_false ?_ ?_ <;> intro hg <;> ((have hg0 := hg); (try simp only [decide_eq_true_eq, decide_eq_false_iff_not, Bool.not_eq_true', Bool.not_eq_false', beq_iff_eq, beq_eq_false_iff_ne, bne_iff_ne, ne_eq, bne_eq_false_iff_eq, List.isEmpty_iff, List.isEmpty_eq_false_iff] at hg) <;> (try simp [hg0, hg]) <;> clear hg0) <;> (try (revert hg; intro _))) | (refine boolK_by ?_ ?_ <;> intro hg <;> ((have hg0 := hg); (try simp only [decide_eq_true_eq, decide_eq_false_iff_not, Bool.not_eq_true', Bool.not_eq_false', beq_iff_eq, beq_eq_false_iff_ne, bne_iff_ne, ne_eq, bne_eq_false_iff_eq, List.isEmpty_iff, List.isEmpty_eq_false_iff] at hg) <;> (try simp [hg0, hg]) <;> clear hg0) <;> (try (revert hg; intro _))))
  · simp [printRu, *]
  · rename_i hm
    refine runK_of (hw hm) ?_
    simp [printRu, *]
def printCk (c : Ck) : S := if mayCheckT c = true then checkS c else []
theorem f18 (X : CallRel) (hX : LibOk X) (hN : LibNm X) (c : Ck) (hs : c.small) (hk : mayCheckT c = true → okC c) : Run cfg X 18 [.agg c.cells] m0 (.str (bs (printCk c))) m0 := by
  have h := f54 X hN c hs
  have hw := fun hm => f51 X hX c (hk hm)
  simp only [Ck.cells] at h hw
  refine Run.fn [.tmp 2] [9] Tryz.func18 rfl (by simp [Tryz.ntmps18]) rfl rfl (by kernel_rfl) ?_
  simp [Ck.cells]
  refine runK_of h ?_
  simp
  (first | (refine guardK_true ?_ ?_ <;> intro hg <;> ((have hg0 := hg); (try simp only [decide_eq_true_eq, decide_eq_false_iff_not, Bool.not_eq_true', Bool.not_eq_false', beq_iff_eq, beq_eq_false_iff_ne, bne_iff_ne, ne_eq, bne_eq_false_iff_eq, List.isEmpty_iff, List.isEmpty_eq_false_iff] at hg) <;> (try simp [hg0, hg]) <;> clear hg0) <;> (try (revert hg; intro _))) | (refine guardK_false ?_ ?_ <;> intro hg <;> ((have hg0 := hg); (try simp only [decide_eq_true_eq, decide_eq_false_iff_not, Bool.not_eq_true', Bool.not_eq_false', beq_iff_eq, beq_eq_false_iff_ne, bne_iff_ne, ne_eq, bne_eq_false_iff_eq, List.isEmpty_iff, List.isEmpty_eq_false_iff] at hg) <;> (try simp [hg0, hg]) <;> clear hg0) <;> (try (revert hg; intro _))) | (refine boolK_by ?_ ?_ <;> intro hg <;> ((have hg0 := hg); (try simp only [decide_eq_true_eq, decide_eq_false_iff_not, Bool.not_eq_true', Bool.not_eq_false', beq_iff_eq, beq_eq_false_iff_ne, bne_iff_ne, ne_eq, bne_eq_false_iff_eq, List.isEmpty_iff, List.isEmpty_eq_false_iff] at hg) <;> (try simp [hg0, hg]) <;> clear hg0) <;> (try (revert hg; intro _))))
  · simp [printCk, *]
  · rename_i hm
    refine runK_of (hw hm) ?_
    simp [printCk, *]
end Go.Vm

namespace Go.Vm
open Go Go.Proofs
def wr64 (n : Int) : Int := IntKind.i64.wrap n
def headW : List Tm → Int → Int
  | [], n => n
  | t :: r, n => headW r (wr64 (n + sizeR t))
def inT : List Tm → Int → Option Int
  | [], n => some n
  | t :: r, n => if 400 < wr64 (n + sizeR t) then none else inT r (wr64 (n + sizeR t))
def inO : List OpT → Int → Option Int
  | [], n => some n
  | o :: r, n => if 400 < wr64 (n + sizeR o.term) then none else inO r (wr64 (n + sizeR o.term))
def bodyW : List Pd → Int → Option Int
  | [], n => some n
  | p :: r, n => match inT p.terms (wr64 (n + wr64 (1 + p.terms.length))) with
    | none => none
    | some k => bodyW r k
def exprsW : List Exp → Int → Option Int
  | [], n => some n
  | e :: r, n => match inO e (wr64 (n + wr64 (1 + e.length))) with
    | none => none
    | some k => exprsW r k
def ruleW (r : Ru) : Option Int := match bodyW r.body (headW r.head.terms (wr64 ((r.scopes.length : Int) + r.head.terms.length))) with
  | none => none
  | some k => exprsW r.exprs k
def weightR (r : Ru) : Int := match ruleW r with
  | none => 400
  | some m => if 400 < m then 400 else m
theorem headW_drop {l : List Tm} {i : Nat} (h : i < l.length) (n : Int) : headW (l.drop i) n = headW (l.drop (i + 1)) (wr64 (n + sizeR l[i])) := by rw [List.drop_eq_getElem_cons h]; rfl
theorem inT_drop {l : List Tm} {i : Nat} (h : i < l.length) (n : Int) : inT (l.drop i) n = if 400 < wr64 (n + sizeR l[i]) then none else inT (l.drop (i + 1)) (wr64 (n + sizeR l[i])) := by rw [List.drop_eq_getElem_cons h]; rfl
theorem inO_drop {l : List OpT} {i : Nat} (h : i < l.length) (n : Int) : inO (l.drop i) n = if 400 < wr64 (n + sizeR l[i].term) then none else inO (l.drop (i + 1)) (wr64 (n + sizeR l[i].term)) := by rw [List.drop_eq_getElem_cons h]; rfl
theorem bodyW_drop {l : List Pd} {i : Nat} (h : i < l.length) (n : Int) : bodyW (l.drop i) n = match inT l[i].terms (wr64 (n + wr64 (1 + l[i].terms.length))) with
    | none => none
    | some k => bodyW (l.drop (i + 1)) k := by rw [List.drop_eq_getElem_cons h]; rfl
theorem exprsW_drop {l : List Exp} {i : Nat} (h : i < l.length) (n : Int) : exprsW (l.drop i) n = match inO l[i] (wr64 (n + wr64 (1 + l[i].length))) with
    | none => none
    | some k => exprsW (l.drop (i + 1)) k := by rw [List.drop_eq_getElem_cons h]; rfl
set_option maxHeartbeats 2000000 in
theorem f20 (X : CallRel) (r : Ru) (h : r.small) : Run cfg X 20 [.agg r.cells] m0 (.int .i64 (weightR r)) m0 := by
  obtain ⟨⟨_, ha, ha'⟩, ⟨hb, hb'⟩, ⟨he, he'⟩, hs, hs'⟩ := h
  refine Run.fn [.tmp 2] [3] Tryz.func20 rfl (by simp [Tryz.ntmps20]) rfl rfl (by kernel_rfl) ?_
  simp [Ru.cells]
  refine wp_loop (fun n s => ∃ i : Nat, n = r.head.terms.length - i ∧ i ≤ r.head.terms.length ∧ ∃ k : Int, headW (r.head.terms.drop i) k = headW r.head.terms (wr64 ((r.scopes.length : Int) + r.head.terms.length)) ∧
      s = ⟨[(26, .int .i64 i), (25, .int .i64 r.head.terms.length), (24, .sl (r.head.terms.map Tm.cells)), (3, .int .i64 k), (1, .ptr 0 0)], ⟨[r.cells], [], [], []⟩⟩)
    { env := [26, 25, 24, 3, 1] } r.head.terms.length ⟨0, by simp, by simp, wr64 ((r.scopes.length : Int) + r.head.terms.length), by simp, by simp [Ru.cells, wr64]⟩ ?_
  rintro n s ⟨i, rfl, hi, k, hc, rfl⟩
  by_cases hlt : i < r.head.terms.length
  · rw [headW_drop hlt] at hc
    have hbk : IntKind.i64.wrap ((i : Int) + 1) = (i : Int) + 1 := wrap64_id (by omega) (by omega)
    have hr := f19 X r.head.terms[i] (ha' _ (List.getElem_mem hlt))
    simp only [Tm.cells_eq] at hr
    simp [hlt, Tm.cells_eq, Ru.cells]
    refine runK_of hr ?_
    simp
    refine loopK_back { env := [26, 25, 24, 3, 1] } (r.head.terms.length - (i + 1)) (by omega) ⟨i + 1, rfl, by omega, _, hc, ?_⟩
    simp [hbk, Ru.cells, wr64]
  · obtain rfl : i = r.head.terms.length := by omega
    rw [List.drop_length] at hc
    have hspec : weightR r = match (match bodyW r.body k with
      | none => none
      | some k => exprsW r.exprs k) with
      | none => 400
      | some m => if 400 < m then 400 else m := by
      simp only [weightR, ruleW]
      rw [← hc]
      rfl
    clear hc hi hlt
    simp [Ru.cells]
    refine wp_loop (fun n s => ∃ i : Nat, n = r.body.length - i ∧ i ≤ r.body.length ∧ ∃ c : Int, bodyW (r.body.drop i) c = bodyW r.body k ∧
        s = ⟨[(38, .int .i64 i), (37, .int .i64 r.body.length), (36, .sl (r.body.map Pd.cells)), (3, .int .i64 c), (1, .ptr 0 0)], ⟨[r.cells], [], [], []⟩⟩)
      { env := [38, 37, 36, 3, 1] } r.body.length ⟨0, by simp, by simp, k, by simp, by simp [Ru.cells]⟩ ?_
    rintro n s ⟨i, rfl, hi, c, hc, rfl⟩
    by_cases hlt : i < r.body.length
    · rw [bodyW_drop hlt] at hc
      have hbk : IntKind.i64.wrap ((i : Int) + 1) = (i : Int) + 1 := wrap64_id (by omega) (by omega)
      have hsm := hb' _ (List.getElem_mem hlt)
      simp [hlt, Pd.cells, Ru.cells]
      refine wp_loop (fun n s => ∃ j : Nat, n = r.body[i].terms.length - j ∧ j ≤ r.body[i].terms.length ∧ ∃ d : Int, inT (r.body[i].terms.drop j) d = inT r.body[i].terms (wr64 (c + wr64 (1 + r.body[i].terms.length))) ∧
          s = ⟨[(51, .int .i64 j), (50, .int .i64 r.body[i].terms.length), (49, .sl (r.body[i].terms.map Tm.cells)), (38, .int .i64 i), (37, .int .i64 r.body.length), (36, .sl (r.body.map Pd.cells)), (3, .int .i64 d), (1, .ptr 0 0)], ⟨[r.cells], [], [], []⟩⟩)
        { env := [51, 50, 49, 38, 37, 36, 3, 1] } r.body[i].terms.length ⟨0, by simp, by simp, wr64 (c + wr64 (1 + r.body[i].terms.length)), by simp, by simp [Ru.cells, wr64]⟩ ?_
      rintro n s ⟨j, rfl, hj, d, hd, rfl⟩
      by_cases hjlt : j < r.body[i].terms.length
      · rw [inT_drop hjlt] at hd
        have htl := hsm.2.1
        have hbj : IntKind.i64.wrap ((j : Int) + 1) = (j : Int) + 1 := wrap64_id (by omega) (by omega)
        have hr := f19 X r.body[i].terms[j] (hsm.2.2 _ (List.getElem_mem hjlt))
        simp only [Tm.cells_eq] at hr
        simp [hjlt, Tm.cells_eq, Ru.cells]
        refine runK_of hr ?_
        simp
        (first | (refine guardK_true ?_ ?_ <;> intro hg <;> ((have hg0 := hg); (try simp only [decide_eq_true_eq, decide_eq_false_iff_not, Bool.not_eq_true', Bool.not_eq_false', beq_iff_eq, beq_eq_false_iff_ne, bne_iff_ne, ne_eq, bne_eq_false_iff_eq, List.isEmpty_iff, List.isEmpty_eq_false_iff] at hg) <;> (try simp [hg0, hg]) <;> clear hg0) <;> (try (revert hg; intro _))) | (refine guardK_false ?_ ?_ <;> intro hg <;> ((have hg0 := hg); (try simp only [decide_eq_true_eq, decide_eq_false_iff_not, Bool.not_eq_true', Bool.not_eq_false', beq_iff_eq, beq_eq_false_iff_ne, bne_iff_ne, ne_eq, bne_eq_false_iff_eq, List.isEmpty_iff, List.isEmpty_eq_false_iff] at hg) <;> (try simp [hg0, hg]) <;> clear hg0) <;> (try (revert hg; intro _))) | (refine boolK_by ?_ ?_ <;> intro hg <;> ((have hg0 := hg); (try simp only [decide_eq_true_eq, decide_eq_false_iff_not, Bool.not_eq_true', Bool.not_eq_false', beq_iff_eq, beq_eq_false_iff_ne, bne_iff_ne, ne_eq, bne_eq_false_iff_eq, List.isEmpty_iff, List.isEmpty_eq_false_iff] at hg) <;> (try simp [hg0, hg]) <;> clear hg0) <;> (try (revert hg; intro _))))
        · rename_i hbig
          have hbig' : 400 < wr64 (d + sizeR r.body[i].terms[j]) := hbig
          rw [if_pos hbig'] at hd
          rw [← hd] at hc
          rw [hspec, ← hc]
        · rename_i hbig
          have hbig' : ¬ 400 < wr64 (d + sizeR r.body[i].terms[j]) := by unfold wr64; omega
          rw [if_neg hbig'] at hd
          refine loopK_back { env := [51, 50, 49, 38, 37, 36, 3, 1] } (r.body[i].terms.length - (j + 1)) (by omega) ⟨j + 1, rfl, by omega, _, hd, ?_⟩
          simp [hbj, Ru.cells, wr64]
      · obtain rfl : j = r.body[i].terms.length := by omega
        rw [List.drop_length] at hd
        rw [← hd] at hc
        simp
        refine loopK_back { env := [38, 37, 36, 3, 1] } (r.body.length - (i + 1)) (by omega) ⟨i + 1, rfl, by omega, d, hc, ?_⟩
        simp [hbk, Ru.cells]
    · obtain rfl : i = r.body.length := by omega
      rw [List.drop_length] at hc
      rw [← hc] at hspec
      have hspec2 : weightR r = match exprsW r.exprs c with
        | none => 400
        | some m => if 400 < m then 400 else m := hspec
      clear hspec hc hi hlt
      simp [Ru.cells]
      refine wp_loop (fun n s => ∃ i : Nat, n = r.exprs.length - i ∧ i ≤ r.exprs.length ∧ ∃ e : Int, exprsW (r.exprs.drop i) e = exprsW r.exprs c ∧
          s = ⟨[(66, .int .i64 i), (65, .int .i64 r.exprs.length), (64, .sl (r.exprs.map exCells)), (3, .int .i64 e)], m0⟩)
        { env := [66, 65, 64, 3] } r.exprs.length ⟨0, by simp, by simp, c, by simp, by simp⟩ ?_
      rintro n s ⟨i, rfl, hi, e, hc, rfl⟩
      by_cases hlt : i < r.exprs.length
      · rw [exprsW_drop hlt] at hc
        have hbk : IntKind.i64.wrap ((i : Int) + 1) = (i : Int) + 1 := wrap64_id (by omega) (by omega)
        have hsm := he' _ (List.getElem_mem hlt)
        simp [hlt, exCells]
        refine wp_loop (fun n s => ∃ j : Nat, n = r.exprs[i].length - j ∧ j ≤ r.exprs[i].length ∧ ∃ d : Int, inO (r.exprs[i].drop j) d = inO r.exprs[i] (wr64 (e + wr64 (1 + r.exprs[i].length))) ∧
            s = ⟨[(79, .int .i64 j), (78, .int .i64 r.exprs[i].length), (77, .sl (r.exprs[i].map OpT.cells)), (66, .int .i64 i), (65, .int .i64 r.exprs.length), (64, .sl (r.exprs.map exCells)), (3, .int .i64 d)], m0⟩)
          { env := [79, 78, 77, 66, 65, 64, 3] } r.exprs[i].length ⟨0, by simp, by simp, wr64 (e + wr64 (1 + r.exprs[i].length)), by simp, by simp [wr64]⟩ ?_
        rintro n s ⟨j, rfl, hj, d, hd, rfl⟩
        by_cases hjlt : j < r.exprs[i].length
        · rw [inO_drop hjlt] at hd
          have htl := hsm.1
          have hbj : IntKind.i64.wrap ((j : Int) + 1) = (j : Int) + 1 := wrap64_id (by omega) (by omega)
          have hr := f19 X r.exprs[i][j].term (hsm.2 _ (List.getElem_mem hjlt))
          simp only [Tm.cells_eq] at hr
          simp [hjlt, OpT.cells]
          refine runK_of hr ?_
          simp
          (first | (refine guardK_true ?_ ?_ <;> intro hg <;> ((have hg0 := hg); (try simp only [decide_eq_true_eq, decide_eq_false_iff_not, Bool.not_eq_true', Bool.not_eq_false', beq_iff_eq, beq_eq_false_iff_ne, bne_iff_ne, ne_eq, bne_eq_false_iff_eq, List.isEmpty_iff, List.isEmpty_eq_false_iff] at hg) <;> (try simp [hg0, hg]) <;> clear hg0) <;> (try (revert hg; intro _))) | (refine guardK_false ?_ ?_ <;> intro hg <;> ((have hg0 := hg); (try simp only [decide_eq_true_eq, decide_eq_false_iff_not, Bool.not_eq_true', Bool.not_eq_false', beq_iff_eq, beq_eq_false_iff_ne, bne_iff_ne, ne_eq, bne_eq_false_iff_eq, List.isEmpty_iff, List.isEmpty_eq_false_iff] at hg) <;> (try simp [hg0, hg]) <;> clear hg0) <;> (try (revert hg; intro _))) | (refine boolK_by ?_ ?_ <;> intro hg <;> ((have hg0 := hg); (try simp only [decide_eq_true_eq, decide_eq_false_iff_not, Bool.not_eq_true', Bool.not_eq_false', beq_iff_eq, beq_eq_false_iff_ne, bne_iff_ne, ne_eq, bne_eq_false_iff_eq, List.isEmpty_iff, List.isEmpty_eq_false_iff] at hg) <;> (try simp [hg0, hg]) <;> clear hg0) <;> (try (revert hg; intro _))))
          · rename_i hbig
            have hbig' : 400 < wr64 (d + sizeR r.exprs[i][j].term) := hbig
            rw [if_pos hbig'] at hd
            rw [← hd] at hc
            rw [hspec2, ← hc]
          · rename_i hbig
            have hbig' : ¬ 400 < wr64 (d + sizeR r.exprs[i][j].term) := by unfold wr64; omega
            rw [if_neg hbig'] at hd
            refine loopK_back { env := [79, 78, 77, 66, 65, 64, 3] } (r.exprs[i].length - (j + 1)) (by omega) ⟨j + 1, rfl, by omega, _, hd, ?_⟩
            simp [hbj, wr64]
        · obtain rfl : j = r.exprs[i].length := by omega
          rw [List.drop_length] at hd
          rw [← hd] at hc
          simp
          refine loopK_back { env := [66, 65, 64, 3] } (r.exprs.length - (i + 1)) (by omega) ⟨i + 1, rfl, by omega, d, hc, ?_⟩
          simp [hbk]
      · obtain rfl : i = r.exprs.length := by omega
        rw [List.drop_length] at hc
        rw [← hc] at hspec2
        have hspec3 : weightR r = if 400 < e then 400 else e := hspec2
        simp [hspec3]
def wv {α : Type} (f : α → Int) : List α → Int → Option Int
  | [], n => some n
  | x :: r, n => if 400 ≤ wr64 (n + wr64 (1 + f x)) then none else wv f r (wr64 (n + wr64 (1 + f x)))
theorem wv_drop {α : Type} (f : α → Int) {l : List α} {i : Nat} (h : i < l.length) (n : Int) : wv f (l.drop i) n = if 400 ≤ wr64 (n + wr64 (1 + f l[i])) then none else wv f (l.drop (i + 1)) (wr64 (n + wr64 (1 + f l[i]))) := by rw [List.drop_eq_getElem_cons h]; rfl
def factW (p : Pd) : Int := weightR ⟨p, [], [], []⟩
def checksW : List Ck → Int → Option Int
  | [], n => some n
  | c :: r, n => match wv weightR c.queries (wr64 (n + 1)) with
    | none => none
    | some k => checksW r k
theorem checksW_drop {l : List Ck} {i : Nat} (h : i < l.length) (n : Int) : checksW (l.drop i) n = match wv weightR l[i].queries (wr64 (n + 1)) with
    | none => none
    | some k => checksW (l.drop (i + 1)) k := by rw [List.drop_eq_getElem_cons h]; rfl
def or400 : Option Int → Int
  | none => 400
  | some k => k
def andW (o : Option Int) (f : Int → Option Int) : Option Int := match o with
  | none => none
  | some k => f k
def blockW (b : Bk) : Int := or400 (andW (wv factW b.facts b.scopes.length) fun k => andW (wv weightR b.rules k) fun m => checksW b.checks m)
set_option maxHeartbeats 2000000 in
theorem f13 (X : CallRel) (b : Bk) (h : b.small) : Run cfg X 13 [.agg b.cells] m0 (.int .i64 (blockW b)) m0 := by
  obtain ⟨⟨hf, hf'⟩, ⟨hr, hr'⟩, ⟨hk, hk'⟩, hs, hs'⟩ := h
  refine Run.fn [.tmp 2] [3] Tryz.func13 rfl (by simp [Tryz.ntmps13]) rfl rfl (by kernel_rfl) ?_
  simp [Bk.cells]
  refine wp_loop (fun n s => ∃ i : Nat, n = b.facts.length - i ∧ i ≤ b.facts.length ∧ ∃ k : Int, wv factW (b.facts.drop i) k = wv factW b.facts b.scopes.length ∧
      s = ⟨[(18, .int .i64 i), (17, .int .i64 b.facts.length), (16, .sl (b.facts.map Pd.cells)), (3, .int .i64 k), (1, .ptr 0 0)], ⟨[b.cells], [], [], []⟩⟩)
    { env := [18, 17, 16, 3, 1] } b.facts.length ⟨0, by simp, by simp, b.scopes.length, by simp, by simp [Bk.cells]⟩ ?_
  rintro n s ⟨i, rfl, hi, k, hc, rfl⟩
  by_cases hlt : i < b.facts.length
  · rw [wv_drop _ hlt] at hc
    have hbk : IntKind.i64.wrap ((i : Int) + 1) = (i : Int) + 1 := wrap64_id (by omega) (by omega)
    have h20 := f20 X ⟨b.facts[i], [], [], []⟩ ⟨hf' _ (List.getElem_mem hlt), by simp, by simp, by simp⟩
    simp only [Ru.cells] at h20
    simp [hlt, Pd.cells, Bk.cells]
    refine runK_of (by simpa using h20) ?_
    simp
    (first | (refine guardK_true ?_ ?_ <;> intro hg <;> ((have hg0 := hg); (try simp only [decide_eq_true_eq, decide_eq_false_iff_not, Bool.not_eq_true', Bool.not_eq_false', beq_iff_eq, beq_eq_false_iff_ne, bne_iff_ne, ne_eq, bne_eq_false_iff_eq, List.isEmpty_iff, List.isEmpty_eq_false_iff] at hg) <;> (try simp [hg0, hg]) <;> clear hg0) <;> (try (revert hg; intro _))) | (refine guardK_false ?_ ?_ <;> intro hg <;> ((have hg0 := hg); (try simp only [decide_eq_true_eq, decide_eq_false_iff_not, Bool.not_eq_true', Bool.not_eq_false', beq_iff_eq, beq_eq_false_iff_ne, bne_iff_ne, ne_eq, bne_eq_false_iff_eq, List.isEmpty_iff, List.isEmpty_eq_false_iff] at hg) <;> (try simp [hg0, hg]) <;> clear hg0) <;> (try (revert hg; intro _))) | (refine boolK_by ?_ ?_ <;> intro hg <;> ((have hg0 := hg); (try simp only [decide_eq_true_eq, decide_eq_false_iff_not, Bool.not_eq_true', Bool.not_eq_false', beq_iff_eq, beq_eq_false_iff_ne, bne_iff_ne, ne_eq, bne_eq_false_iff_eq, List.isEmpty_iff, List.isEmpty_eq_false_iff] at hg) <;> (try simp [hg0, hg]) <;> clear hg0) <;> (try (revert hg; intro _))))
    · rename_i hbig
      have hbig' : 400 ≤ wr64 (k + wr64 (1 + factW b.facts[i])) := hbig
      rw [if_pos hbig'] at hc
      unfold blockW
      rw [← hc]
      rfl
    · rename_i hbig
      have hbig' : ¬ 400 ≤ wr64 (k + wr64 (1 + factW b.facts[i])) := by unfold wr64 factW; omega
      rw [if_neg hbig'] at hc
      refine loopK_back { env := [18, 17, 16, 3, 1] } (b.facts.length - (i + 1)) (by omega) ⟨i + 1, rfl, by omega, _, hc, ?_⟩
      simp [hbk, Bk.cells, wr64, factW]
  · obtain rfl : i = b.facts.length := by omega
    rw [List.drop_length] at hc
    have hspec : blockW b = or400 (andW (wv weightR b.rules k) fun m => checksW b.checks m) := by
      unfold blockW
      rw [← hc]
      rfl
    clear hc hi hlt
    simp [Bk.cells]
    refine wp_loop (fun n s => ∃ i : Nat, n = b.rules.length - i ∧ i ≤ b.rules.length ∧ ∃ c : Int, wv weightR (b.rules.drop i) c = wv weightR b.rules k ∧
        s = ⟨[(34, .int .i64 i), (33, .int .i64 b.rules.length), (32, .sl (b.rules.map Ru.cells)), (3, .int .i64 c), (1, .ptr 0 0)], ⟨[b.cells], [], [], []⟩⟩)
      { env := [34, 33, 32, 3, 1] } b.rules.length ⟨0, by simp, by simp, k, by simp, by simp [Bk.cells]⟩ ?_
    rintro n s ⟨i, rfl, hi, c, hc, rfl⟩
    by_cases hlt : i < b.rules.length
    · rw [wv_drop _ hlt] at hc
      have hbk : IntKind.i64.wrap ((i : Int) + 1) = (i : Int) + 1 := wrap64_id (by omega) (by omega)
      have h20 := f20 X b.rules[i] (hr' _ (List.getElem_mem hlt))
      simp only [Ru.cells] at h20
      simp [hlt, Ru.cells, Bk.cells]
      refine runK_of h20 ?_
      simp
      (first | (refine guardK_true ?_ ?_ <;> intro hg <;> ((have hg0 := hg); (try simp only [decide_eq_true_eq, decide_eq_false_iff_not, Bool.not_eq_true', Bool.not_eq_false', beq_iff_eq, beq_eq_false_iff_ne, bne_iff_ne, ne_eq, bne_eq_false_iff_eq, List.isEmpty_iff, List.isEmpty_eq_false_iff] at hg) <;> (try simp [hg0, hg]) <;> clear hg0) <;> (try (revert hg; intro _))) | (refine guardK_false ?_ ?_ <;> intro hg <;> ((have hg0 := hg); (try simp only [decide_eq_true_eq, decide_eq_false_iff_not, Bool.not_eq_true', Bool.not_eq_false', beq_iff_eq, beq_eq_false_iff_ne, bne_iff_ne, ne_eq, bne_eq_false_iff_eq, List.isEmpty_iff, List.isEmpty_eq_false_iff] at hg) <;> (try simp [hg0, hg]) <;> clear hg0) <;> (try (revert hg; intro _))) | (refine boolK_by ?_ ?_ <;> intro hg <;> ((have hg0 := hg); (try simp only [decide_eq_true_eq, decide_eq_false_iff_not, Bool.not_eq_true', Bool.not_eq_false', beq_iff_eq, beq_eq_false_iff_ne, bne_iff_ne, ne_eq, bne_eq_false_iff_eq, List.isEmpty_iff, List.isEmpty_eq_false_iff] at hg) <;> (try simp [hg0, hg]) <;> clear hg0) <;> (try (revert hg; intro _))))
      · rename_i hbig
        have hbig' : 400 ≤ wr64 (c + wr64 (1 + weightR b.rules[i])) := hbig
        rw [if_pos hbig'] at hc
        rw [hspec, ← hc]
        rfl
      · rename_i hbig
        have hbig' : ¬ 400 ≤ wr64 (c + wr64 (1 + weightR b.rules[i])) := by unfold wr64; omega
        rw [if_neg hbig'] at hc
        refine loopK_back { env := [34, 33, 32, 3, 1] } (b.rules.length - (i + 1)) (by omega) ⟨i + 1, rfl, by omega, _, hc, ?_⟩
        simp [hbk, Bk.cells, wr64]
    · obtain rfl : i = b.rules.length := by omega
      rw [List.drop_length] at hc
      have hspec2 : blockW b = or400 (checksW b.checks c) := by
        rw [hspec, ← hc]
        rfl
      clear hc hi hlt hspec
      simp [Bk.cells]
      refine wp_loop (fun n s => ∃ i : Nat, n = b.checks.length - i ∧ i ≤ b.checks.length ∧ ∃ e : Int, checksW (b.checks.drop i) e = checksW b.checks c ∧
          s = ⟨[(49, .int .i64 i), (48, .int .i64 b.checks.length), (47, .sl (b.checks.map Ck.cells)), (3, .int .i64 e)], m0⟩)
        { env := [49, 48, 47, 3] } b.checks.length ⟨0, by simp, by simp, c, by simp, by simp⟩ ?_
      rintro n s ⟨i, rfl, hi, e, hc, rfl⟩
      by_cases hlt : i < b.checks.length
      · rw [checksW_drop hlt] at hc
        have hbk : IntKind.i64.wrap ((i : Int) + 1) = (i : Int) + 1 := wrap64_id (by omega) (by omega)
        have hsm := hk' _ (List.getElem_mem hlt)
        simp [hlt, Ck.cells]
        refine wp_loop (fun n s => ∃ j : Nat, n = b.checks[i].queries.length - j ∧ j ≤ b.checks[i].queries.length ∧ ∃ d : Int, wv weightR (b.checks[i].queries.drop j) d = wv weightR b.checks[i].queries (wr64 (e + 1)) ∧
            s = ⟨[(58, .int .i64 j), (57, .int .i64 b.checks[i].queries.length), (56, .sl (b.checks[i].queries.map Ru.cells)), (49, .int .i64 i), (48, .int .i64 b.checks.length), (47, .sl (b.checks.map Ck.cells)), (3, .int .i64 d)], m0⟩)
          { env := [58, 57, 56, 49, 48, 47, 3] } b.checks[i].queries.length ⟨0, by simp, by simp, wr64 (e + 1), by simp, by simp [wr64]⟩ ?_
        rintro n s ⟨j, rfl, hj, d, hd, rfl⟩
        by_cases hjlt : j < b.checks[i].queries.length
        · rw [wv_drop _ hjlt] at hd
          have htl := hsm.1
          have hbj : IntKind.i64.wrap ((j : Int) + 1) = (j : Int) + 1 := wrap64_id (by omega) (by omega)
          have h20 := f20 X b.checks[i].queries[j] (hsm.2 _ (List.getElem_mem hjlt))
          simp only [Ru.cells] at h20
          simp [hjlt, Ru.cells]
          refine runK_of h20 ?_
          simp
          (first | (refine guardK_true ?_ ?_ <;> intro hg <;> ((have hg0 := hg); (try simp only [decide_eq_true_eq, decide_eq_false_iff_not, Bool.not_eq_true', Bool.not_eq_false', beq_iff_eq, beq_eq_false_iff_ne, bne_iff_ne, ne_eq, bne_eq_false_iff_eq, List.isEmpty_iff, List.isEmpty_eq_false_iff] at hg) <;> (try simp [hg0, hg]) <;> clear hg0) <;> (try (revert hg; intro _))) | (refine guardK_false ?_ ?_ <;> intro hg <;> ((have hg0 := hg); (try simp only [decide_eq_true_eq, decide_eq_false_iff_not, Bool.not_eq_true', Bool.not_eq_false', beq_iff_eq, beq_eq_false_iff_ne, bne_iff_ne, ne_eq, bne_eq_false_iff_eq, List.isEmpty_iff, List.isEmpty_eq_false_iff] at hg) <;> (try simp [hg0, hg]) <;> clear hg0) <;> (try (revert hg; intro _))) | (refine boolK_by ?_ ?_ <;> intro hg <;> ((have hg0 := hg); (try simp only [decide_eq_true_eq, decide_eq_false_iff_not, Bool.not_eq_true', Bool.not_eq_false', beq_iff_eq, beq_eq_false_iff_ne, bne_iff_ne, ne_eq, bne_eq_false_iff_eq, List.isEmpty_iff, List.isEmpty_eq_false_iff] at hg) <;> (try simp [hg0, hg]) <;> clear hg0) <;> (try (revert hg; intro _))))
          · rename_i hbig
            have hbig' : 400 ≤ wr64 (d + wr64 (1 + weightR b.checks[i].queries[j])) := hbig
            rw [if_pos hbig'] at hd
            rw [← hd] at hc
            rw [hspec2, ← hc]
            rfl
          · rename_i hbig
            have hbig' : ¬ 400 ≤ wr64 (d + wr64 (1 + weightR b.checks[i].queries[j])) := by unfold wr64; omega
            rw [if_neg hbig'] at hd
            refine loopK_back { env := [58, 57, 56, 49, 48, 47, 3] } (b.checks[i].queries.length - (j + 1)) (by omega) ⟨j + 1, rfl, by omega, _, hd, ?_⟩
            simp [hbj, wr64]
        · obtain rfl : j = b.checks[i].queries.length := by omega
          rw [List.drop_length] at hd
          rw [← hd] at hc
          simp
          refine loopK_back { env := [49, 48, 47, 3] } (b.checks.length - (i + 1)) (by omega) ⟨i + 1, rfl, by omega, d, hc, ?_⟩
          simp [hbk]
      · obtain rfl : i = b.checks.length := by omega
        rw [List.drop_length] at hc
        rw [← hc] at hspec2
        have hspec3 : blockW b = e := hspec2
        simp [hspec3]
end Go.Vm

namespace Go.Vm
open Go Go.Proofs
theorem joinS_nil_cons (x : S) : ∀ l : List S, joinS [] (x :: l) = x ++ joinS [] l
  | [] => by simp [joinS]
  | y :: r => by simp [joinS]
theorem lines_cons {α : Type} (tx : α → S) (x : α) (l : List α) : linesS tx (x :: l) = tx x ++ [59, 10] ++ linesS tx l := by
  unfold linesS
  rw [List.map_cons, joinS_nil_cons]
theorem lines_drop {α : Type} (tx : α → S) {l : List α} {i : Nat} (h : i < l.length) : linesS tx (l.drop i) = tx l[i] ++ [59, 10] ++ linesS tx (l.drop (i + 1)) := by
  rw [List.drop_eq_getElem_cons h, lines_cons]
def partsPlain (b : Bk) : Prop := mayBlockR b = true → okK b ∧ mayBlockT b = true ∧ mayBlockT ⟨[], [], [], b.scopes⟩ = true ∧ (∀ p ∈ b.facts, mayPredT p = true) ∧ (∀ r ∈ b.rules, mayRuleT r = true) ∧ ∀ c ∈ b.checks, mayCheckT c = true
theorem blk_empty : printBlk ⟨[], [], [], []⟩ = [] := by
  unfold printBlk
  split
  · rfl
  · rfl
set_option maxHeartbeats 4000000 in
theorem f4 (X : CallRel) (hX : LibOk X) (hN : LibNm X) (b : Bk) (h : b.small) (hp : partsPlain b) : Run cfg X 4 [.agg b.cells] m0 (.bool true) m0 := by
  have hw := f10 X hX
  have h13 := f13 X b h
  have h14 := f14 X b h
  have h15e := f15 X hX hN ⟨[], [], [], []⟩ ⟨by simp, by simp, by simp, by simp⟩ fun _ => ⟨by simp, by simp, by simp, by simp⟩
  rw [blk_empty] at h15e
  refine Run.fn [.tmp 2] [4] Tryz.func4 rfl (by simp [Tryz.ntmps4]) rfl rfl (by kernel_rfl) ?_
  simp only [Bk.cells] at h13 h14 h15e ⊢
  simp
  refine runK_of h13 ?_
  simp
  repeat' (first
    | (first | (refine guardK_true ?_ ?_ <;> intro hg <;> ((have hg0 := hg); (try simp only [decide_eq_true_eq, decide_eq_false_iff_not, Bool.not_eq_true', Bool.not_eq_false', beq_iff_eq, beq_eq_false_iff_ne, bne_iff_ne, ne_eq, bne_eq_false_iff_eq, List.isEmpty_iff, List.isEmpty_eq_false_iff] at hg) <;> (try simp [hg0, hg]) <;> clear hg0) <;> (try (revert hg; intro _))) | (refine guardK_false ?_ ?_ <;> intro hg <;> ((have hg0 := hg); (try simp only [decide_eq_true_eq, decide_eq_false_iff_not, Bool.not_eq_true', Bool.not_eq_false', beq_iff_eq, beq_eq_false_iff_ne, bne_iff_ne, ne_eq, bne_eq_false_iff_eq, List.isEmpty_iff, List.isEmpty_eq_false_iff] at hg) <;> (try simp [hg0, hg]) <;> clear hg0) <;> (try (revert hg; intro _))) | (refine boolK_by ?_ ?_ <;> intro hg <;> ((have hg0 := hg); (try simp only [decide_eq_true_eq, decide_eq_false_iff_not, Bool.not_eq_true', Bool.not_eq_false', beq_iff_eq, beq_eq_false_iff_ne, bne_iff_ne, ne_eq, bne_eq_false_iff_eq, List.isEmpty_iff, List.isEmpty_eq_false_iff] at hg) <;> (try simp [hg0, hg]) <;> clear hg0) <;> (try (revert hg; intro _))))
    | (refine runK_of h14 ?_; simp)
    | (refine runK_of hw ?_; simp; done))
  have hm : mayBlockR b = true := by assumption
  obtain ⟨hok, q1, q2, q3, q4, q5⟩ := hp hm
  have h15s := f15 X hX hN ⟨[], [], [], b.scopes⟩ ⟨by simp, by simp, by simp, h.2.2.2⟩ fun _ => ⟨by simp, by simp, by simp, hok.2.2.2⟩
  have h15b := f15 X hX hN b h fun _ => hok
  have es : printBlk ⟨[], [], [], b.scopes⟩ = trustS b.scopes := by
    unfold printBlk blockS
    rw [if_pos q2]
    simp [linesS, joinS]
  have eb : printBlk b = trustS b.scopes ++ linesS predS b.facts ++ linesS ruleS b.rules ++ linesS checkS b.checks := by
    unfold printBlk blockS
    rw [if_pos q1]
  rw [es] at h15s
  rw [eb] at h15b
  simp only [Bk.cells] at h15s h15b
  refine runK_of (by simpa using h15s) ?_
  simp
  have t1 : (trustS b.scopes).length ≤ 2000 := by
    have := scopes_len hok.2.2.2.1 hok.2.2.2.2
    unfold trustS
    split
    · simp only [List.length_append, List.length_cons, List.length_nil]
      omega
    · simp
  have l1 := lines_len predS b.facts hok.1.1 fun p hp => by have := pred_len (hok.1.2 p hp); omega
  have l2 := lines_len ruleS b.rules hok.2.1.1 fun r hr => by have := rule_len (hok.2.1.2 r hr).1 (hok.2.1.2 r hr).2; omega
  have l3 := lines_len checkS b.checks hok.2.2.1.1 fun c hc => by have := check_len (hok.2.2.1.2 c hc); omega
  have n1 := hok.1.1
  have n2 := hok.2.1.1
  have n3 := hok.2.2.1.1
  refine wp_loop (fun n s => ∃ i : Nat, n = b.facts.length - i ∧ i ≤ b.facts.length ∧ ∃ o : S, o ++ linesS predS (b.facts.drop i) = (trustS b.scopes) ++ linesS predS b.facts ∧
      s = ⟨[(26, .int .i64 i), (25, .int .i64 b.facts.length), (24, .sl (b.facts.map Pd.cells)), (3, .str (bs o)), (1, .ptr 0 0)], ⟨[b.cells], [], [], []⟩⟩)
    { env := [26, 25, 24, 3, 1] } b.facts.length ⟨0, by simp, by simp, (trustS b.scopes), by simp, by simp [Bk.cells]⟩ ?_
  rintro n s ⟨i, rfl, hi, o, ho, rfl⟩
  by_cases hlt : i < b.facts.length
  · rw [lines_drop _ hlt] at ho
    have hlen := congrArg List.length ho
    simp only [List.length_append, List.length_cons, List.length_nil] at hlen
    have hbk : IntKind.i64.wrap ((i : Int) + 1) = (i : Int) + 1 := wrap64_id (by omega) (by omega)
    have hr := f16 X hX b.facts[i] (h.1.2 _ (List.getElem_mem hlt)) fun _ => hok.1.2 _ (List.getElem_mem hlt)
    have e1 : printPd b.facts[i] = predS b.facts[i] := by
      unfold printPd
      rw [if_pos (q3 _ (List.getElem_mem hlt))]
    rw [e1] at hr
    simp only [Pd.cells] at hr
    simp [hlt, Pd.cells, Bk.cells]
    refine runK_of hr ?_
    simp
    refine ⟨by omega, by omega, loopK_back { env := [26, 25, 24, 3, 1] } (b.facts.length - (i + 1)) (by omega) ⟨i + 1, rfl, by omega, o ++ (predS b.facts[i] ++ [59, 10]), by simpa using ho, ?_⟩⟩
    simp [hbk, Bk.cells]
  · obtain rfl : i = b.facts.length := by omega
    have ho' : o = (trustS b.scopes) ++ linesS predS b.facts := by simpa [linesS, joinS] using ho
    subst ho'
    simp [Bk.cells]
    refine wp_loop (fun n s => ∃ i : Nat, n = b.rules.length - i ∧ i ≤ b.rules.length ∧ ∃ o : S, o ++ linesS ruleS (b.rules.drop i) = (trustS b.scopes ++ linesS predS b.facts) ++ linesS ruleS b.rules ∧
        s = ⟨[(39, .int .i64 i), (38, .int .i64 b.rules.length), (37, .sl (b.rules.map Ru.cells)), (3, .str (bs o)), (1, .ptr 0 0)], ⟨[b.cells], [], [], []⟩⟩)
      { env := [39, 38, 37, 3, 1] } b.rules.length ⟨0, by simp, by simp, (trustS b.scopes ++ linesS predS b.facts), by simp, by simp [Bk.cells]⟩ ?_
    rintro n s ⟨i, rfl, hi, o, ho, rfl⟩
    by_cases hlt : i < b.rules.length
    · rw [lines_drop _ hlt] at ho
      have hlen := congrArg List.length ho
      simp only [List.length_append, List.length_cons, List.length_nil] at hlen
      have hbk : IntKind.i64.wrap ((i : Int) + 1) = (i : Int) + 1 := wrap64_id (by omega) (by omega)
      have hr := f17 X hX hN b.rules[i] (h.2.1.2 _ (List.getElem_mem hlt)) fun _ => hok.2.1.2 _ (List.getElem_mem hlt)
      have e1 : printRu b.rules[i] = ruleS b.rules[i] := by
        unfold printRu
        rw [if_pos (q4 _ (List.getElem_mem hlt))]
      rw [e1] at hr
      simp only [Ru.cells] at hr
      simp [hlt, Ru.cells, Bk.cells]
      refine runK_of hr ?_
      simp
      refine ⟨by omega, by omega, loopK_back { env := [39, 38, 37, 3, 1] } (b.rules.length - (i + 1)) (by omega) ⟨i + 1, rfl, by omega, o ++ (ruleS b.rules[i] ++ [59, 10]), by simpa using ho, ?_⟩⟩
      simp [hbk, Bk.cells]
    · obtain rfl : i = b.rules.length := by omega
      have ho' : o = (trustS b.scopes ++ linesS predS b.facts) ++ linesS ruleS b.rules := by simpa [linesS, joinS] using ho
      subst ho'
      simp [Bk.cells]
      refine wp_loop (fun n s => ∃ i : Nat, n = b.checks.length - i ∧ i ≤ b.checks.length ∧ ∃ o : S, o ++ linesS checkS (b.checks.drop i) = (trustS b.scopes ++ linesS predS b.facts ++ linesS ruleS b.rules) ++ linesS checkS b.checks ∧
          s = ⟨[(52, .int .i64 i), (51, .int .i64 b.checks.length), (50, .sl (b.checks.map Ck.cells)), (3, .str (bs o)), (1, .ptr 0 0)], ⟨[b.cells], [], [], []⟩⟩)
        { env := [52, 51, 50, 3, 1] } b.checks.length ⟨0, by simp, by simp, (trustS b.scopes ++ linesS predS b.facts ++ linesS ruleS b.rules), by simp, by simp [Bk.cells]⟩ ?_
      rintro n s ⟨i, rfl, hi, o, ho, rfl⟩
      by_cases hlt : i < b.checks.length
      · rw [lines_drop _ hlt] at ho
        have hlen := congrArg List.length ho
        simp only [List.length_append, List.length_cons, List.length_nil] at hlen
        have hbk : IntKind.i64.wrap ((i : Int) + 1) = (i : Int) + 1 := wrap64_id (by omega) (by omega)
        have hr := f18 X hX hN b.checks[i] (h.2.2.1.2 _ (List.getElem_mem hlt)) fun _ => hok.2.2.1.2 _ (List.getElem_mem hlt)
        have e1 : printCk b.checks[i] = checkS b.checks[i] := by
          unfold printCk
          rw [if_pos (q5 _ (List.getElem_mem hlt))]
        rw [e1] at hr
        simp only [Ck.cells] at hr
        simp [hlt, Ck.cells, Bk.cells]
        refine runK_of hr ?_
        simp
        refine ⟨by omega, by omega, loopK_back { env := [52, 51, 50, 3, 1] } (b.checks.length - (i + 1)) (by omega) ⟨i + 1, rfl, by omega, o ++ (checkS b.checks[i] ++ [59, 10]), by simpa using ho, ?_⟩⟩
        simp [hbk, Bk.cells]
      · obtain rfl : i = b.checks.length := by omega
        have ho' : o = (trustS b.scopes ++ linesS predS b.facts ++ linesS ruleS b.rules) ++ linesS checkS b.checks := by simpa [linesS, joinS] using ho
        subst ho'
        simp [Bk.cells]
        refine runK_of (by simpa using h15b) ?_
        simp
        refine runK_of (by simpa using h15e) ?_
        simp
        refine runK_of hw ?_
        simp
end Go.Vm
