/- What functions compute that print and its laws reach: what expressions may be, their texts. Conditions: lengths are an int's; the library's contracts for texts. -/
import Derived.Test.YtbbpfakobaiglaaGreatDoorWalkA
import Derived.Lib.ItoaNum
import Derived.Lib.ItoaLen
set_option linter.unusedVariables false
set_option linter.unusedSimpArgs false
namespace Go.Vm
open Go Go.Proofs
theorem f207 (X : CallRel) (t : Tm) : Run cfg X 207 [.agg t.cells] m0 (.bool (zeroR t)) m0 := by
  refine Run.fn [.tmp 2] [4] Tryz.func207 rfl (by simp [Tryz.ntmps207]) rfl rfl (by kernel_rfl) ?_
  simp [Tm.cells_eq]
  (repeat' (first | (first | (refine guardK_true ?_ ?_ <;> intro hg <;> ((have hg0 := hg); (try simp only [decide_eq_true_eq, decide_eq_false_iff_not, Bool.not_eq_true', Bool.not_eq_false', beq_iff_eq, beq_eq_false_iff_ne, bne_iff_ne, ne_eq, bne_eq_false_iff_eq, List.isEmpty_iff, List.isEmpty_eq_false_iff] at hg) <;> (try simp [hg0, hg]) <;> clear hg0) <;> (try (revert hg; intro _))) | (refine guardK_false ?_ ?_ <;> intro hg <;> ((have hg0 := hg); (try simp only [decide_eq_true_eq, decide_eq_false_iff_not, Bool.not_eq_true', Bool.not_eq_false', beq_iff_eq, beq_eq_false_iff_ne, bne_iff_ne, ne_eq, bne_eq_false_iff_eq, List.isEmpty_iff, List.isEmpty_eq_false_iff] at hg) <;> (try simp [hg0, hg]) <;> clear hg0) <;> (try (revert hg; intro _))) | (refine boolK_by ?_ ?_ <;> intro hg <;> ((have hg0 := hg); (try simp only [decide_eq_true_eq, decide_eq_false_iff_not, Bool.not_eq_true', Bool.not_eq_false', beq_iff_eq, beq_eq_false_iff_ne, bne_iff_ne, ne_eq, bne_eq_false_iff_eq, List.isEmpty_iff, List.isEmpty_eq_false_iff] at hg) <;> (try simp [hg0, hg]) <;> clear hg0) <;> (try (revert hg; intro _)))) | (refine And.intro ?_ ?_; (first | assumption | omega | kernel_rfl); try simp)))
  all_goals simp [zeroR, *]
def needsR (o : OpT) : Int := if o.kind = 1 then 0 else if o.kind = 3 then 2 else 1
theorem f149 (X : CallRel) (o : OpT) : Run cfg X 149 [.agg o.cells] m0 (.int .i64 (needsR o)) m0 := by
  refine Run.fn [.tmp 2] [3] Tryz.func149 rfl (by simp [Tryz.ntmps149]) rfl rfl (by kernel_rfl) ?_
  simp [OpT.cells]
  (repeat' (first | (first | (refine guardK_true ?_ ?_ <;> intro hg <;> ((have hg0 := hg); (try simp only [decide_eq_true_eq, decide_eq_false_iff_not, Bool.not_eq_true', Bool.not_eq_false', beq_iff_eq, beq_eq_false_iff_ne, bne_iff_ne, ne_eq, bne_eq_false_iff_eq, List.isEmpty_iff, List.isEmpty_eq_false_iff] at hg) <;> (try simp [hg0, hg]) <;> clear hg0) <;> (try (revert hg; intro _))) | (refine guardK_false ?_ ?_ <;> intro hg <;> ((have hg0 := hg); (try simp only [decide_eq_true_eq, decide_eq_false_iff_not, Bool.not_eq_true', Bool.not_eq_false', beq_iff_eq, beq_eq_false_iff_ne, bne_iff_ne, ne_eq, bne_eq_false_iff_eq, List.isEmpty_iff, List.isEmpty_eq_false_iff] at hg) <;> (try simp [hg0, hg]) <;> clear hg0) <;> (try (revert hg; intro _))) | (refine boolK_by ?_ ?_ <;> intro hg <;> ((have hg0 := hg); (try simp only [decide_eq_true_eq, decide_eq_false_iff_not, Bool.not_eq_true', Bool.not_eq_false', beq_iff_eq, beq_eq_false_iff_ne, bne_iff_ne, ne_eq, bne_eq_false_iff_eq, List.isEmpty_iff, List.isEmpty_eq_false_iff] at hg) <;> (try simp [hg0, hg]) <;> clear hg0) <;> (try (revert hg; intro _)))) | (refine And.intro ?_ ?_; (first | assumption | omega | kernel_rfl); try simp)))
  all_goals simp [needsR, *]
def lazyR (o : OpT) : Bool := if o.kind = 4 then true else o.kind == 5
theorem f150 (X : CallRel) (o : OpT) : Run cfg X 150 [.agg o.cells] m0 (.bool (lazyR o)) m0 := by
  refine Run.fn [.tmp 2] [4] Tryz.func150 rfl (by simp [Tryz.ntmps150]) rfl rfl (by kernel_rfl) ?_
  simp [OpT.cells]
  (repeat' (first | (first | (refine guardK_true ?_ ?_ <;> intro hg <;> ((have hg0 := hg); (try simp only [decide_eq_true_eq, decide_eq_false_iff_not, Bool.not_eq_true', Bool.not_eq_false', beq_iff_eq, beq_eq_false_iff_ne, bne_iff_ne, ne_eq, bne_eq_false_iff_eq, List.isEmpty_iff, List.isEmpty_eq_false_iff] at hg) <;> (try simp [hg0, hg]) <;> clear hg0) <;> (try (revert hg; intro _))) | (refine guardK_false ?_ ?_ <;> intro hg <;> ((have hg0 := hg); (try simp only [decide_eq_true_eq, decide_eq_false_iff_not, Bool.not_eq_true', Bool.not_eq_false', beq_iff_eq, beq_eq_false_iff_ne, bne_iff_ne, ne_eq, bne_eq_false_iff_eq, List.isEmpty_iff, List.isEmpty_eq_false_iff] at hg) <;> (try simp [hg0, hg]) <;> clear hg0) <;> (try (revert hg; intro _))) | (refine boolK_by ?_ ?_ <;> intro hg <;> ((have hg0 := hg); (try simp only [decide_eq_true_eq, decide_eq_false_iff_not, Bool.not_eq_true', Bool.not_eq_false', beq_iff_eq, beq_eq_false_iff_ne, bne_iff_ne, ne_eq, bne_eq_false_iff_eq, List.isEmpty_iff, List.isEmpty_eq_false_iff] at hg) <;> (try simp [hg0, hg]) <;> clear hg0) <;> (try (revert hg; intro _)))) | (refine And.intro ?_ ?_; (first | assumption | omega | kernel_rfl); try simp)))
  all_goals simp [lazyR, *]
end Go.Vm

namespace Go.Vm
open Go Go.Proofs
def risT (F : Tm → Bool) (k : Int) : Option Tm → List Tm → Bool
  | _, [] => true
  | p, x :: r => if F x = false then false else if x.kind = 7 then false else if x.kind ≠ k then false else
    match p with
    | none => risT F k (some x) r
    | some y => if 0 ≤ cmpT 3 y x then false else risT F k (some x) r
theorem risT_drop (F : Tm → Bool) (k : Int) {l : List Tm} {i : Nat} (h : i < l.length) : risT F k (prevOf l i) (l.drop i) = (if F l[i] = false then false else if l[i].kind = 7 then false else if l[i].kind ≠ k then false else
    if 0 < (i : Int) then if 0 ≤ cmpT 3 (l[i - 1]'(by omega)) l[i] then false else risT F k (prevOf l (i + 1)) (l.drop (i + 1)) else risT F k (prevOf l (i + 1)) (l.drop (i + 1))) := by
  have e : prevOf l (i + 1) = some l[i] := by simp [prevOf, h]
  rw [List.drop_eq_getElem_cons h, e]
  cases i with
  | zero => simp [prevOf, risT]
  | succ j =>
    have e2 : prevOf l (j + 1) = some l[j] := by simp [prevOf, show j < l.length by omega]
    rw [e2]
    have : (0 : Int) < ((j + 1 : Nat) : Int) := by omega
    simp [risT]
def risingR (F : Tm → Bool) (l : List Tm) : Bool := if risT F ((l[0]?.map Tm.kind).getD 0) none l = true then decide ((l.length : Int) ≤ 16) else false
set_option maxHeartbeats 4000000 in
theorem f113 (X : CallRel) (F : Tm → Bool) (l : List Tm) (hl : l.length ≤ 9223372036854775807) (hsm : ∀ x ∈ l, x.small) (hF : ∀ x ∈ l, Run cfg X 126 [.agg x.cells] m0 (.bool (F x)) m0) :
    Run cfg X 113 [.sl (l.map Tm.cells)] m0 (.bool (risingR F l)) m0 := by
  refine Run.fn [.tmp 2] [4] Tryz.func113 rfl (by simp [Tryz.ntmps113]) rfl rfl (by kernel_rfl) ?_
  simp
  refine wp_loop (fun k s => ∃ i : Nat, k = l.length - i ∧ i ≤ l.length ∧ risT F ((l[0]?.map Tm.kind).getD 0) none l = risT F ((l[0]?.map Tm.kind).getD 0) (prevOf l i) (l.drop i) ∧
      s = ⟨[(7, .int .i64 i), (6, .int .i64 l.length), (5, .sl (l.map Tm.cells)), (0, .sl (l.map Tm.cells)), (2, .bool false)], m0⟩)
    { env := [7, 6, 5, 0, 2] } l.length ⟨0, by simp, by simp, by simp [prevOf], by simp⟩ ?_
  rintro n s ⟨i, rfl, hi, hc, rfl⟩
  simp
  (first | (refine guardK_true ?_ ?_ <;> intro hg <;> ((have hg0 := hg); (try simp only [decide_eq_true_eq, decide_eq_false_iff_not, Bool.not_eq_true', Bool.not_eq_false', beq_iff_eq, beq_eq_false_iff_ne, bne_iff_ne, ne_eq, bne_eq_false_iff_eq, List.isEmpty_iff, List.isEmpty_eq_false_iff] at hg) <;> (try simp [hg0, hg]) <;> clear hg0) <;> (try (revert hg; intro _))) | (refine guardK_false ?_ ?_ <;> intro hg <;> ((have hg0 := hg); (try simp only [decide_eq_true_eq, decide_eq_false_iff_not, Bool.not_eq_true', Bool.not_eq_false', beq_iff_eq, beq_eq_false_iff_ne, bne_iff_ne, ne_eq, bne_eq_false_iff_eq, List.isEmpty_iff, List.isEmpty_eq_false_iff] at hg) <;> (try simp [hg0, hg]) <;> clear hg0) <;> (try (revert hg; intro _))) | (refine boolK_by ?_ ?_ <;> intro hg <;> ((have hg0 := hg); (try simp only [decide_eq_true_eq, decide_eq_false_iff_not, Bool.not_eq_true', Bool.not_eq_false', beq_iff_eq, beq_eq_false_iff_ne, bne_iff_ne, ne_eq, bne_eq_false_iff_eq, List.isEmpty_iff, List.isEmpty_eq_false_iff] at hg) <;> (try simp [hg0, hg]) <;> clear hg0) <;> (try (revert hg; intro _))))
  · rename_i hlt
    rw [risT_drop F _ hlt] at hc
    have h0 : 0 < l.length := by omega
    have hk : (Option.map Tm.kind l[0]?).getD 0 = l[0].kind := by simp [h0]
    have hback : IntKind.i64.wrap ((i : Int) + 1) = (i : Int) + 1 := wrap64_id (by omega) (by omega)
    have hm := hF l[i] (List.getElem_mem hlt)
    simp only [Tm.cells_eq] at hm
    simp [Tm.cells_eq]
    refine runK_of hm ?_
    simp
    (first | (refine guardK_true ?_ ?_ <;> intro hg <;> ((have hg0 := hg); (try simp only [decide_eq_true_eq, decide_eq_false_iff_not, Bool.not_eq_true', Bool.not_eq_false', beq_iff_eq, beq_eq_false_iff_ne, bne_iff_ne, ne_eq, bne_eq_false_iff_eq, List.isEmpty_iff, List.isEmpty_eq_false_iff] at hg) <;> (try simp [hg0, hg]) <;> clear hg0) <;> (try (revert hg; intro _))) | (refine guardK_false ?_ ?_ <;> intro hg <;> ((have hg0 := hg); (try simp only [decide_eq_true_eq, decide_eq_false_iff_not, Bool.not_eq_true', Bool.not_eq_false', beq_iff_eq, beq_eq_false_iff_ne, bne_iff_ne, ne_eq, bne_eq_false_iff_eq, List.isEmpty_iff, List.isEmpty_eq_false_iff] at hg) <;> (try simp [hg0, hg]) <;> clear hg0) <;> (try (revert hg; intro _))) | (refine boolK_by ?_ ?_ <;> intro hg <;> ((have hg0 := hg); (try simp only [decide_eq_true_eq, decide_eq_false_iff_not, Bool.not_eq_true', Bool.not_eq_false', beq_iff_eq, beq_eq_false_iff_ne, bne_iff_ne, ne_eq, bne_eq_false_iff_eq, List.isEmpty_iff, List.isEmpty_eq_false_iff] at hg) <;> (try simp [hg0, hg]) <;> clear hg0) <;> (try (revert hg; intro _))))
    · (repeat' (first | (first | (refine guardK_true ?_ ?_ <;> intro hg <;> ((have hg0 := hg); (try simp only [decide_eq_true_eq, decide_eq_false_iff_not, Bool.not_eq_true', Bool.not_eq_false', beq_iff_eq, beq_eq_false_iff_ne, bne_iff_ne, ne_eq, bne_eq_false_iff_eq, List.isEmpty_iff, List.isEmpty_eq_false_iff] at hg) <;> (try simp [hg0, hg]) <;> clear hg0) <;> (try (revert hg; intro _))) | (refine guardK_false ?_ ?_ <;> intro hg <;> ((have hg0 := hg); (try simp only [decide_eq_true_eq, decide_eq_false_iff_not, Bool.not_eq_true', Bool.not_eq_false', beq_iff_eq, beq_eq_false_iff_ne, bne_iff_ne, ne_eq, bne_eq_false_iff_eq, List.isEmpty_iff, List.isEmpty_eq_false_iff] at hg) <;> (try simp [hg0, hg]) <;> clear hg0) <;> (try (revert hg; intro _))) | (refine boolK_by ?_ ?_ <;> intro hg <;> ((have hg0 := hg); (try simp only [decide_eq_true_eq, decide_eq_false_iff_not, Bool.not_eq_true', Bool.not_eq_false', beq_iff_eq, beq_eq_false_iff_ne, bne_iff_ne, ne_eq, bne_eq_false_iff_eq, List.isEmpty_iff, List.isEmpty_eq_false_iff] at hg) <;> (try simp [hg0, hg]) <;> clear hg0) <;> (try (revert hg; intro _)))) | (refine And.intro ?_ ?_; (first | assumption | omega | kernel_rfl); try simp)))
      unfold risingR
      rw [hc]
      simp [*]
    (first | (refine guardK_true ?_ ?_ <;> intro hg <;> ((have hg0 := hg); (try simp only [decide_eq_true_eq, decide_eq_false_iff_not, Bool.not_eq_true', Bool.not_eq_false', beq_iff_eq, beq_eq_false_iff_ne, bne_iff_ne, ne_eq, bne_eq_false_iff_eq, List.isEmpty_iff, List.isEmpty_eq_false_iff] at hg) <;> (try simp [hg0, hg]) <;> clear hg0) <;> (try (revert hg; intro _))) | (refine guardK_false ?_ ?_ <;> intro hg <;> ((have hg0 := hg); (try simp only [decide_eq_true_eq, decide_eq_false_iff_not, Bool.not_eq_true', Bool.not_eq_false', beq_iff_eq, beq_eq_false_iff_ne, bne_iff_ne, ne_eq, bne_eq_false_iff_eq, List.isEmpty_iff, List.isEmpty_eq_false_iff] at hg) <;> (try simp [hg0, hg]) <;> clear hg0) <;> (try (revert hg; intro _))) | (refine boolK_by ?_ ?_ <;> intro hg <;> ((have hg0 := hg); (try simp only [decide_eq_true_eq, decide_eq_false_iff_not, Bool.not_eq_true', Bool.not_eq_false', beq_iff_eq, beq_eq_false_iff_ne, bne_iff_ne, ne_eq, bne_eq_false_iff_eq, List.isEmpty_iff, List.isEmpty_eq_false_iff] at hg) <;> (try simp [hg0, hg]) <;> clear hg0) <;> (try (revert hg; intro _))))
    · (repeat' (first | (first | (refine guardK_true ?_ ?_ <;> intro hg <;> ((have hg0 := hg); (try simp only [decide_eq_true_eq, decide_eq_false_iff_not, Bool.not_eq_true', Bool.not_eq_false', beq_iff_eq, beq_eq_false_iff_ne, bne_iff_ne, ne_eq, bne_eq_false_iff_eq, List.isEmpty_iff, List.isEmpty_eq_false_iff] at hg) <;> (try simp [hg0, hg]) <;> clear hg0) <;> (try (revert hg; intro _))) | (refine guardK_false ?_ ?_ <;> intro hg <;> ((have hg0 := hg); (try simp only [decide_eq_true_eq, decide_eq_false_iff_not, Bool.not_eq_true', Bool.not_eq_false', beq_iff_eq, beq_eq_false_iff_ne, bne_iff_ne, ne_eq, bne_eq_false_iff_eq, List.isEmpty_iff, List.isEmpty_eq_false_iff] at hg) <;> (try simp [hg0, hg]) <;> clear hg0) <;> (try (revert hg; intro _))) | (refine boolK_by ?_ ?_ <;> intro hg <;> ((have hg0 := hg); (try simp only [decide_eq_true_eq, decide_eq_false_iff_not, Bool.not_eq_true', Bool.not_eq_false', beq_iff_eq, beq_eq_false_iff_ne, bne_iff_ne, ne_eq, bne_eq_false_iff_eq, List.isEmpty_iff, List.isEmpty_eq_false_iff] at hg) <;> (try simp [hg0, hg]) <;> clear hg0) <;> (try (revert hg; intro _)))) | (refine And.intro ?_ ?_; (first | assumption | omega | kernel_rfl); try simp)))
      unfold risingR
      rw [hc]
      simp [*]
    simp [h0, Tm.cells_eq]
    (first | (refine guardK_true ?_ ?_ <;> intro hg <;> ((have hg0 := hg); (try simp only [decide_eq_true_eq, decide_eq_false_iff_not, Bool.not_eq_true', Bool.not_eq_false', beq_iff_eq, beq_eq_false_iff_ne, bne_iff_ne, ne_eq, bne_eq_false_iff_eq, List.isEmpty_iff, List.isEmpty_eq_false_iff] at hg) <;> (try simp [hg0, hg]) <;> clear hg0) <;> (try (revert hg; intro _))) | (refine guardK_false ?_ ?_ <;> intro hg <;> ((have hg0 := hg); (try simp only [decide_eq_true_eq, decide_eq_false_iff_not, Bool.not_eq_true', Bool.not_eq_false', beq_iff_eq, beq_eq_false_iff_ne, bne_iff_ne, ne_eq, bne_eq_false_iff_eq, List.isEmpty_iff, List.isEmpty_eq_false_iff] at hg) <;> (try simp [hg0, hg]) <;> clear hg0) <;> (try (revert hg; intro _))) | (refine boolK_by ?_ ?_ <;> intro hg <;> ((have hg0 := hg); (try simp only [decide_eq_true_eq, decide_eq_false_iff_not, Bool.not_eq_true', Bool.not_eq_false', beq_iff_eq, beq_eq_false_iff_ne, bne_iff_ne, ne_eq, bne_eq_false_iff_eq, List.isEmpty_iff, List.isEmpty_eq_false_iff] at hg) <;> (try simp [hg0, hg]) <;> clear hg0) <;> (try (revert hg; intro _))))
    · (repeat' (first | (first | (refine guardK_true ?_ ?_ <;> intro hg <;> ((have hg0 := hg); (try simp only [decide_eq_true_eq, decide_eq_false_iff_not, Bool.not_eq_true', Bool.not_eq_false', beq_iff_eq, beq_eq_false_iff_ne, bne_iff_ne, ne_eq, bne_eq_false_iff_eq, List.isEmpty_iff, List.isEmpty_eq_false_iff] at hg) <;> (try simp [hg0, hg]) <;> clear hg0) <;> (try (revert hg; intro _))) | (refine guardK_false ?_ ?_ <;> intro hg <;> ((have hg0 := hg); (try simp only [decide_eq_true_eq, decide_eq_false_iff_not, Bool.not_eq_true', Bool.not_eq_false', beq_iff_eq, beq_eq_false_iff_ne, bne_iff_ne, ne_eq, bne_eq_false_iff_eq, List.isEmpty_iff, List.isEmpty_eq_false_iff] at hg) <;> (try simp [hg0, hg]) <;> clear hg0) <;> (try (revert hg; intro _))) | (refine boolK_by ?_ ?_ <;> intro hg <;> ((have hg0 := hg); (try simp only [decide_eq_true_eq, decide_eq_false_iff_not, Bool.not_eq_true', Bool.not_eq_false', beq_iff_eq, beq_eq_false_iff_ne, bne_iff_ne, ne_eq, bne_eq_false_iff_eq, List.isEmpty_iff, List.isEmpty_eq_false_iff] at hg) <;> (try simp [hg0, hg]) <;> clear hg0) <;> (try (revert hg; intro _)))) | (refine And.intro ?_ ?_; (first | assumption | omega | kernel_rfl); try simp)))
      unfold risingR
      rw [hc]
      simp [*]
    have hk0 : l[i].kind = l[0].kind := by assumption
    have q7 : ¬ l[0].kind = 7 := by rw [← hk0]; assumption
    (first | (refine guardK_true ?_ ?_ <;> intro hg <;> ((have hg0 := hg); (try simp only [decide_eq_true_eq, decide_eq_false_iff_not, Bool.not_eq_true', Bool.not_eq_false', beq_iff_eq, beq_eq_false_iff_ne, bne_iff_ne, ne_eq, bne_eq_false_iff_eq, List.isEmpty_iff, List.isEmpty_eq_false_iff] at hg) <;> (try simp [hg0, hg]) <;> clear hg0) <;> (try (revert hg; intro _))) | (refine guardK_false ?_ ?_ <;> intro hg <;> ((have hg0 := hg); (try simp only [decide_eq_true_eq, decide_eq_false_iff_not, Bool.not_eq_true', Bool.not_eq_false', beq_iff_eq, beq_eq_false_iff_ne, bne_iff_ne, ne_eq, bne_eq_false_iff_eq, List.isEmpty_iff, List.isEmpty_eq_false_iff] at hg) <;> (try simp [hg0, hg]) <;> clear hg0) <;> (try (revert hg; intro _))) | (refine boolK_by ?_ ?_ <;> intro hg <;> ((have hg0 := hg); (try simp only [decide_eq_true_eq, decide_eq_false_iff_not, Bool.not_eq_true', Bool.not_eq_false', beq_iff_eq, beq_eq_false_iff_ne, bne_iff_ne, ne_eq, bne_eq_false_iff_eq, List.isEmpty_iff, List.isEmpty_eq_false_iff] at hg) <;> (try simp [hg0, hg]) <;> clear hg0) <;> (try (revert hg; intro _))))
    · have hp : i - 1 < l.length := by omega
      have hi1 : ((i : Int) - 1).toNat = i - 1 := by omega
      have hw : IntKind.i64.wrap ((i : Int) - 1) = (i : Int) - 1 := wrap64_id (by omega) (by omega)
      simp [hw, hi1, hp, Tm.cells_eq]
      refine ⟨⟨by omega, by omega⟩, ?_⟩
      refine runK_of (by simpa [Tm.cells_eq, hk0] using f184 X l[i - 1] l[i] (hsm _ (List.getElem_mem _))) ?_
      simp
      (repeat' (first | (first | (refine guardK_true ?_ ?_ <;> intro hg <;> ((have hg0 := hg); (try simp only [decide_eq_true_eq, decide_eq_false_iff_not, Bool.not_eq_true', Bool.not_eq_false', beq_iff_eq, beq_eq_false_iff_ne, bne_iff_ne, ne_eq, bne_eq_false_iff_eq, List.isEmpty_iff, List.isEmpty_eq_false_iff] at hg) <;> (try simp [hg0, hg]) <;> clear hg0) <;> (try (revert hg; intro _))) | (refine guardK_false ?_ ?_ <;> intro hg <;> ((have hg0 := hg); (try simp only [decide_eq_true_eq, decide_eq_false_iff_not, Bool.not_eq_true', Bool.not_eq_false', beq_iff_eq, beq_eq_false_iff_ne, bne_iff_ne, ne_eq, bne_eq_false_iff_eq, List.isEmpty_iff, List.isEmpty_eq_false_iff] at hg) <;> (try simp [hg0, hg]) <;> clear hg0) <;> (try (revert hg; intro _))) | (refine boolK_by ?_ ?_ <;> intro hg <;> ((have hg0 := hg); (try simp only [decide_eq_true_eq, decide_eq_false_iff_not, Bool.not_eq_true', Bool.not_eq_false', beq_iff_eq, beq_eq_false_iff_ne, bne_iff_ne, ne_eq, bne_eq_false_iff_eq, List.isEmpty_iff, List.isEmpty_eq_false_iff] at hg) <;> (try simp [hg0, hg]) <;> clear hg0) <;> (try (revert hg; intro _)))) | (refine And.intro ?_ ?_; (first | assumption | omega | kernel_rfl); try simp)))
      any_goals (unfold risingR; rw [hc]; simp [*]; done)
      refine loopK_back { env := [7, 6, 5, 0, 2] } (l.length - (i + 1)) (by omega) ⟨i + 1, rfl, by omega, by rw [hc]; simp [*], ?_⟩
      simp [*]
    · (repeat' (first | (first | (refine guardK_true ?_ ?_ <;> intro hg <;> ((have hg0 := hg); (try simp only [decide_eq_true_eq, decide_eq_false_iff_not, Bool.not_eq_true', Bool.not_eq_false', beq_iff_eq, beq_eq_false_iff_ne, bne_iff_ne, ne_eq, bne_eq_false_iff_eq, List.isEmpty_iff, List.isEmpty_eq_false_iff] at hg) <;> (try simp [hg0, hg]) <;> clear hg0) <;> (try (revert hg; intro _))) | (refine guardK_false ?_ ?_ <;> intro hg <;> ((have hg0 := hg); (try simp only [decide_eq_true_eq, decide_eq_false_iff_not, Bool.not_eq_true', Bool.not_eq_false', beq_iff_eq, beq_eq_false_iff_ne, bne_iff_ne, ne_eq, bne_eq_false_iff_eq, List.isEmpty_iff, List.isEmpty_eq_false_iff] at hg) <;> (try simp [hg0, hg]) <;> clear hg0) <;> (try (revert hg; intro _))) | (refine boolK_by ?_ ?_ <;> intro hg <;> ((have hg0 := hg); (try simp only [decide_eq_true_eq, decide_eq_false_iff_not, Bool.not_eq_true', Bool.not_eq_false', beq_iff_eq, beq_eq_false_iff_ne, bne_iff_ne, ne_eq, bne_eq_false_iff_eq, List.isEmpty_iff, List.isEmpty_eq_false_iff] at hg) <;> (try simp [hg0, hg]) <;> clear hg0) <;> (try (revert hg; intro _)))) | (refine And.intro ?_ ?_; (first | assumption | omega | kernel_rfl); try simp)))
      refine loopK_back { env := [7, 6, 5, 0, 2] } (l.length - (i + 1)) (by omega) ⟨i + 1, rfl, by omega, by rw [hc]; simp [*], ?_⟩
      simp [*]
  · obtain rfl : i = l.length := by omega
    rw [List.drop_length] at hc
    simp [risingR, hc, risT]
def mayT1 (r : Bool) (t : Tm) : Bool :=
  if t.kind ≠ 7 ∧ 0 < (t.l.length : Int) then false
  else if t.kind = 1 then (if t.n = 0 then nameT t.s else false)
  else if t.kind = 2 then t.s.isEmpty
  else if t.kind = 3 ∨ t.kind = 5 then (if t.n = 0 then decide ((t.s.length : Int) ≤ 256) else false)
  else if t.kind = 4 then (if t.s = [] then if 0 ≤ t.n then decide (t.n ≤ 253402300799) else false else false)
  else if t.kind = 6 then (if t.s = [] then if t.n = 0 then true else t.n == 1 else false)
  else if t.kind = 7 then (if t.n = 0 then if t.s = [] then r else false else false)
  else false
set_option maxHeartbeats 4000000 in
theorem f59' (X : CallRel) (t : Tm) (r : Bool) (hs : t.s.length ≤ 9223372036854775807) (h : t.kind = 7 → Run cfg X 113 [.sl (t.l.map Tm.cells)] m0 (.bool r) m0) : Run cfg X 59 [.agg t.cells] m0 (.bool (mayT1 r t)) m0 := by
  refine Run.fn [.tmp 2] [4] Tryz.func59 rfl (by simp [Tryz.ntmps59]) rfl rfl (by kernel_rfl) ?_
  simp [Tm.cells_eq]
  repeat' (first
    | (first | (refine guardK_true ?_ ?_ <;> intro hg <;> ((have hg0 := hg); (try simp only [decide_eq_true_eq, decide_eq_false_iff_not, Bool.not_eq_true', Bool.not_eq_false', beq_iff_eq, beq_eq_false_iff_ne, bne_iff_ne, ne_eq, bne_eq_false_iff_eq, List.isEmpty_iff, List.isEmpty_eq_false_iff] at hg) <;> (try simp [hg0, hg]) <;> clear hg0) <;> (try (revert hg; intro _))) | (refine guardK_false ?_ ?_ <;> intro hg <;> ((have hg0 := hg); (try simp only [decide_eq_true_eq, decide_eq_false_iff_not, Bool.not_eq_true', Bool.not_eq_false', beq_iff_eq, beq_eq_false_iff_ne, bne_iff_ne, ne_eq, bne_eq_false_iff_eq, List.isEmpty_iff, List.isEmpty_eq_false_iff] at hg) <;> (try simp [hg0, hg]) <;> clear hg0) <;> (try (revert hg; intro _))) | (refine boolK_by ?_ ?_ <;> intro hg <;> ((have hg0 := hg); (try simp only [decide_eq_true_eq, decide_eq_false_iff_not, Bool.not_eq_true', Bool.not_eq_false', beq_iff_eq, beq_eq_false_iff_ne, bne_iff_ne, ne_eq, bne_eq_false_iff_eq, List.isEmpty_iff, List.isEmpty_eq_false_iff] at hg) <;> (try simp [hg0, hg]) <;> clear hg0) <;> (try (revert hg; intro _))))
    | (refine runK_of (f101 X _ hs) ?_; simp)
    | (refine runK_of (h (by assumption)) ?_; simp)
    | (refine And.intro ?_ ?_; (first | assumption | omega | kernel_rfl); try simp))
  all_goals (simp [mayT1, *]; done)
theorem f126' (X : CallRel) (t : Tm) (m : Bool) (h : Run cfg X 59 [.agg t.cells] m0 (.bool m) m0) : Run cfg X 126 [.agg t.cells] m0 (.bool (if t.kind = 1 then false else m)) m0 := by
  refine Run.fn [.tmp 2] [4] Tryz.func126 rfl (by simp [Tryz.ntmps126]) rfl rfl (by kernel_rfl) ?_
  simp only [Tm.cells_eq] at h
  simp [Tm.cells_eq]
  repeat' (first
    | (first | (refine guardK_true ?_ ?_ <;> intro hg <;> ((have hg0 := hg); (try simp only [decide_eq_true_eq, decide_eq_false_iff_not, Bool.not_eq_true', Bool.not_eq_false', beq_iff_eq, beq_eq_false_iff_ne, bne_iff_ne, ne_eq, bne_eq_false_iff_eq, List.isEmpty_iff, List.isEmpty_eq_false_iff] at hg) <;> (try simp [hg0, hg]) <;> clear hg0) <;> (try (revert hg; intro _))) | (refine guardK_false ?_ ?_ <;> intro hg <;> ((have hg0 := hg); (try simp only [decide_eq_true_eq, decide_eq_false_iff_not, Bool.not_eq_true', Bool.not_eq_false', beq_iff_eq, beq_eq_false_iff_ne, bne_iff_ne, ne_eq, bne_eq_false_iff_eq, List.isEmpty_iff, List.isEmpty_eq_false_iff] at hg) <;> (try simp [hg0, hg]) <;> clear hg0) <;> (try (revert hg; intro _))) | (refine boolK_by ?_ ?_ <;> intro hg <;> ((have hg0 := hg); (try simp only [decide_eq_true_eq, decide_eq_false_iff_not, Bool.not_eq_true', Bool.not_eq_false', beq_iff_eq, beq_eq_false_iff_ne, bne_iff_ne, ne_eq, bne_eq_false_iff_eq, List.isEmpty_iff, List.isEmpty_eq_false_iff] at hg) <;> (try simp [hg0, hg]) <;> clear hg0) <;> (try (revert hg; intro _))))
    | (refine runK_of h ?_; simp)
    | (refine And.intro ?_ ?_; (first | assumption | omega | kernel_rfl); try simp))
  all_goals simp [*]
mutual
def Tm.dep : Tm → Nat
  | .mk _ _ _ l => depL l + 1
def depL : List Tm → Nat
  | [] => 0
  | t :: r => max t.dep (depL r)
end
theorem depL_le : ∀ {l : List Tm} {t : Tm}, t ∈ l → t.dep ≤ depL l
  | [], t, h => by simp at h
  | x :: r, t, h => by
    simp only [depL]
    rcases List.mem_cons.1 h with rfl | h
    · omega
    · have := depL_le h
      omega
theorem Tm.dep_eq (t : Tm) : t.dep = depL t.l + 1 := by cases t; simp [Tm.dep, Tm.l]
def mayN : Nat → Tm → Bool
  | 0, _ => false
  | N + 1, t => mayT1 (risingR (fun x => if x.kind = 1 then false else mayN N x) t.l) t
theorem f59N (X : CallRel) : ∀ (N : Nat) (t : Tm), t.dep < N → t.small → Run cfg X 59 [.agg t.cells] m0 (.bool (mayN N t)) m0 := by
  intro N
  induction N with
  | zero => exact fun t h => absurd h (Nat.not_lt_zero _)
  | succ N ih =>
    intro t hd hs
    have hs' := Tm.small_iff.1 hs
    refine f59' X t _ hs'.1 fun _ => f113 X _ t.l hs'.2.1 hs'.2.2 fun x hx => f126' X x _ (ih x ?_ (hs'.2.2 x hx))
    have := depL_le hx
    rw [t.dep_eq] at hd
    omega
def mayT (t : Tm) : Bool := mayN (t.dep + 1) t
theorem f59 (X : CallRel) (t : Tm) (h : t.small) : Run cfg X 59 [.agg t.cells] m0 (.bool (mayT t)) m0 := f59N X _ t (Nat.lt_succ_self _) h
theorem f126 (X : CallRel) (t : Tm) (h : t.small) : Run cfg X 126 [.agg t.cells] m0 (.bool (if t.kind = 1 then false else mayT t)) m0 := f126' X t _ (f59 X t h)
end Go.Vm

namespace Go.Vm
open Go Go.Proofs
def aloneR (o : OpT) : Bool :=
  if o.kind = 1 then (if o.code = 0 then if o.skip = 0 then mayT o.term else false else false)
  else if zeroR o.term = false then false
  else if o.kind = 2 then (if o.skip = 0 then if 1 ≤ o.code then decide (o.code ≤ 3) else false else false)
  else if o.kind = 3 then (if o.skip = 0 then if 1 ≤ o.code then decide (o.code ≤ 19) else false else false)
  else if lazyR o = true then if o.code = 0 then decide (1 ≤ o.skip) else false else false
set_option maxHeartbeats 4000000 in
theorem f148 (X : CallRel) (o : OpT) (h : o.term.small) : Run cfg X 148 [.agg o.cells] m0 (.bool (aloneR o)) m0 := by
  have hz := f207 X o.term
  have hm := f59 X o.term h
  have hl := f150 X o
  rw [Tm.cells_eq] at hz hm
  simp only [OpT.cells] at hl
  refine Run.fn [.tmp 2] [4] Tryz.func148 rfl (by simp [Tryz.ntmps148]) rfl rfl (by kernel_rfl) ?_
  simp [OpT.cells]
  repeat' (first
    | (first | (refine guardK_true ?_ ?_ <;> intro hg <;> ((have hg0 := hg); (try simp only [decide_eq_true_eq, decide_eq_false_iff_not, Bool.not_eq_true', Bool.not_eq_false', beq_iff_eq, beq_eq_false_iff_ne, bne_iff_ne, ne_eq, bne_eq_false_iff_eq, List.isEmpty_iff, List.isEmpty_eq_false_iff] at hg) <;> (try simp [hg0, hg]) <;> clear hg0) <;> (try (revert hg; intro _))) | (refine guardK_false ?_ ?_ <;> intro hg <;> ((have hg0 := hg); (try simp only [decide_eq_true_eq, decide_eq_false_iff_not, Bool.not_eq_true', Bool.not_eq_false', beq_iff_eq, beq_eq_false_iff_ne, bne_iff_ne, ne_eq, bne_eq_false_iff_eq, List.isEmpty_iff, List.isEmpty_eq_false_iff] at hg) <;> (try simp [hg0, hg]) <;> clear hg0) <;> (try (revert hg; intro _))) | (refine boolK_by ?_ ?_ <;> intro hg <;> ((have hg0 := hg); (try simp only [decide_eq_true_eq, decide_eq_false_iff_not, Bool.not_eq_true', Bool.not_eq_false', beq_iff_eq, beq_eq_false_iff_ne, bne_iff_ne, ne_eq, bne_eq_false_iff_eq, List.isEmpty_iff, List.isEmpty_eq_false_iff] at hg) <;> (try simp [hg0, hg]) <;> clear hg0) <;> (try (revert hg; intro _))))
    | (refine runK_of hz ?_; simp)
    | (refine runK_of hm ?_; simp)
    | (refine runK_of hl ?_; simp)
    | (refine And.intro ?_ ?_; (first | assumption | omega | kernel_rfl); try simp))
  all_goals (simp [aloneR, *]; done)
/-- Do these operations leave one term? -/
def wholeGo : List OpT → Int → Bool
  | [], n => n == 1
  | o :: r, n =>
    if aloneR o = false then false
    else if n < needsR o then false
    else if lazyR o = true then
      if (r.length : Int) < o.skip then false
      else if wholeGo (r.take o.skip.toNat) 0 = false then false
      else wholeGo (r.drop o.skip.toNat) (n + (1 - needsR o))
    else wholeGo r (n + (1 - needsR o))
termination_by l => l.length
decreasing_by all_goals simp_all <;> omega
theorem needs_range (o : OpT) : 0 ≤ needsR o ∧ needsR o ≤ 2 := by
  unfold needsR
  split
  · omega
  · split <;> omega
set_option maxHeartbeats 8000000 in
theorem f82 (X : CallRel) : ∀ (N : Nat) (l : List OpT), l.length < N → l.length ≤ 1000 → (∀ o ∈ l, o.term.small) → Run cfg X 82 [.sl (l.map OpT.cells)] m0 (.bool (wholeGo l 0)) m0 := by
  intro N
  induction N with
  | zero => exact fun l h => absurd h (Nat.not_lt_zero _)
  | succ N ih =>
    intro l hN hl hsm
    refine Run.fn [.tmp 2] [4] Tryz.func82 rfl (by simp [Tryz.ntmps82]) rfl rfl (by kernel_rfl) ?_
    simp
    refine wp_loop (fun k s => ∃ i : Nat, k = l.length - i ∧ i ≤ l.length ∧ ∃ n : Int, 0 ≤ n ∧ n ≤ i ∧ wholeGo l 0 = wholeGo (l.drop i) n ∧
        s = ⟨[(4, .int .i64 i), (3, .int .i64 n), (0, .sl (l.map OpT.cells))], m0⟩)
      { env := [4, 3, 0] } l.length ⟨0, by simp, by simp, 0, by simp, by simp, by simp, by simp⟩ ?_
    rintro k s ⟨i, rfl, hi, n, h0, h1, hc, rfl⟩
    simp
    (first | (refine guardK_true ?_ ?_ <;> intro hg <;> ((have hg0 := hg); (try simp only [decide_eq_true_eq, decide_eq_false_iff_not, Bool.not_eq_true', Bool.not_eq_false', beq_iff_eq, beq_eq_false_iff_ne, bne_iff_ne, ne_eq, bne_eq_false_iff_eq, List.isEmpty_iff, List.isEmpty_eq_false_iff] at hg) <;> (try simp [hg0, hg]) <;> clear hg0) <;> (try (revert hg; intro _))) | (refine guardK_false ?_ ?_ <;> intro hg <;> ((have hg0 := hg); (try simp only [decide_eq_true_eq, decide_eq_false_iff_not, Bool.not_eq_true', Bool.not_eq_false', beq_iff_eq, beq_eq_false_iff_ne, bne_iff_ne, ne_eq, bne_eq_false_iff_eq, List.isEmpty_iff, List.isEmpty_eq_false_iff] at hg) <;> (try simp [hg0, hg]) <;> clear hg0) <;> (try (revert hg; intro _))) | (refine boolK_by ?_ ?_ <;> intro hg <;> ((have hg0 := hg); (try simp only [decide_eq_true_eq, decide_eq_false_iff_not, Bool.not_eq_true', Bool.not_eq_false', beq_iff_eq, beq_eq_false_iff_ne, bne_iff_ne, ne_eq, bne_eq_false_iff_eq, List.isEmpty_iff, List.isEmpty_eq_false_iff] at hg) <;> (try simp [hg0, hg]) <;> clear hg0) <;> (try (revert hg; intro _))))
    · rename_i hlt
      rw [List.drop_eq_getElem_cons hlt, wholeGo] at hc
      have hm := f148 X l[i] (hsm _ (List.getElem_mem hlt))
      have hn := f149 X l[i]
      have hz := f150 X l[i]
      simp only [OpT.cells] at hm hn hz
      simp [OpT.cells]
      repeat' (first
        | (first | (refine guardK_true ?_ ?_ <;> intro hg <;> ((have hg0 := hg); (try simp only [decide_eq_true_eq, decide_eq_false_iff_not, Bool.not_eq_true', Bool.not_eq_false', beq_iff_eq, beq_eq_false_iff_ne, bne_iff_ne, ne_eq, bne_eq_false_iff_eq, List.isEmpty_iff, List.isEmpty_eq_false_iff] at hg) <;> (try simp [hg0, hg]) <;> clear hg0) <;> (try (revert hg; intro _))) | (refine guardK_false ?_ ?_ <;> intro hg <;> ((have hg0 := hg); (try simp only [decide_eq_true_eq, decide_eq_false_iff_not, Bool.not_eq_true', Bool.not_eq_false', beq_iff_eq, beq_eq_false_iff_ne, bne_iff_ne, ne_eq, bne_eq_false_iff_eq, List.isEmpty_iff, List.isEmpty_eq_false_iff] at hg) <;> (try simp [hg0, hg]) <;> clear hg0) <;> (try (revert hg; intro _))) | (refine boolK_by ?_ ?_ <;> intro hg <;> ((have hg0 := hg); (try simp only [decide_eq_true_eq, decide_eq_false_iff_not, Bool.not_eq_true', Bool.not_eq_false', beq_iff_eq, beq_eq_false_iff_ne, bne_iff_ne, ne_eq, bne_eq_false_iff_eq, List.isEmpty_iff, List.isEmpty_eq_false_iff] at hg) <;> (try simp [hg0, hg]) <;> clear hg0) <;> (try (revert hg; intro _))))
        | (refine runK_of hm ?_; simp)
        | (refine runK_of hn ?_; simp)
        | (refine runK_of hz ?_; simp))
      any_goals (rw [hc]; simp [*]; done)
      all_goals
        obtain ⟨r0, r2⟩ := needs_range l[i]
        have hb : IntKind.i64.wrap ((i : Int) + 1) = (i : Int) + 1 := wrap64_id (by omega) (by omega)
        have hL : IntKind.i64.wrap ((l.length : Int) - i) = (l.length : Int) - i := wrap64_id (by omega) (by omega)
        have hL2 : IntKind.i64.wrap ((l.length : Int) - i - 1) = (l.length : Int) - i - 1 := wrap64_id (by omega) (by omega)
        have hN1 : IntKind.i64.wrap (1 - needsR l[i]) = 1 - needsR l[i] := wrap64_id (by omega) (by omega)
        have hN2 : IntKind.i64.wrap (n + (1 - needsR l[i])) = n + (1 - needsR l[i]) := wrap64_id (by omega) (by omega)
        have hdl : ((l.drop (i + 1)).length : Int) = (l.length : Int) - i - 1 := by simp; omega
        rw [hdl] at hc
      · rename_i hx
        rw [hL, hL2] at hx
        rw [hc]
        simp [*]
      · rename_i hx
        rw [hL, hL2] at hx
        have hs : 1 ≤ l[i].skip := by
          have h1 := ‹aloneR l[i] = true›
          have h2 := ‹lazyR l[i] = true›
          have hk : l[i].kind = 4 ∨ l[i].kind = 5 := by
            unfold lazyR at h2
            split at h2
            · exact .inl ‹_›
            · exact .inr (by simpa using h2)
          unfold aloneR at h1
          rw [if_neg (by omega), if_neg (show ¬ l[i].kind = 2 by omega), if_neg (show ¬ l[i].kind = 3 by omega), if_pos h2] at h1
          split at h1
          · cases h1
          · split at h1
            · simpa using h1
            · cases h1
        obtain ⟨k, hk'⟩ : ∃ k : Nat, l[i].skip = k := ⟨l[i].skip.toNat, by omega⟩
        have hws : IntKind.i64.wrap ((i : Int) + 1 + l[i].skip) = (i : Int) + 1 + l[i].skip := wrap64_id (by omega) (by omega)
        have hws2 : IntKind.i64.wrap ((i : Int) + l[i].skip) = (i : Int) + l[i].skip := wrap64_id (by omega) (by omega)
        have hws3 : IntKind.i64.wrap ((i : Int) + l[i].skip + 1) = (i : Int) + l[i].skip + 1 := wrap64_id (by omega) (by omega)
        have ht : ((i : Int) + 1 + l[i].skip).toNat = i + 1 + k := by omega
        have ht2 : ((i : Int) + 1).toNat = i + 1 := by omega
        have hks : l[i].skip.toNat = k := by omega
        rw [hks] at hc
        have hsl : ((l.map OpT.cells).take (i + 1 + k)).drop (i + 1) = ((l.drop (i + 1)).take k).map OpT.cells := by
          rw [List.drop_take, ← List.map_drop, ← List.map_take]
          congr 2
          omega
        have hall : allLen (l.map OpT.cells) 7 := fun x hx => by
          obtain ⟨o, _, rfl⟩ := List.mem_map.1 hx
          rfl
        refine ⟨⟨by rw [hb]; omega, by rw [hb, hws]; omega, by rw [hb, hws]; omega, hall⟩, ?_⟩
        simp only [hb, hws, ht, ht2, hsl]
        refine runK_of (ih _ (by simp; omega) (by simp; omega) (fun o ho => hsm o (List.mem_of_mem_drop (List.mem_of_mem_take ho)))) ?_
        simp
        have hc2 : wholeGo l 0 = if wholeGo ((l.drop (i + 1)).take k) 0 = false then false else wholeGo ((l.drop (i + 1)).drop k) (n + (1 - needsR l[i])) := by
          rw [hc, if_neg (by simp [‹aloneR l[i] = true›]), if_neg ‹¬ n < needsR l[i]›, if_pos ‹lazyR l[i] = true›, if_neg hx]
        (first | (refine guardK_true ?_ ?_ <;> intro hg <;> ((have hg0 := hg); (try simp only [decide_eq_true_eq, decide_eq_false_iff_not, Bool.not_eq_true', Bool.not_eq_false', beq_iff_eq, beq_eq_false_iff_ne, bne_iff_ne, ne_eq, bne_eq_false_iff_eq, List.isEmpty_iff, List.isEmpty_eq_false_iff] at hg) <;> (try simp [hg0, hg]) <;> clear hg0) <;> (try (revert hg; intro _))) | (refine guardK_false ?_ ?_ <;> intro hg <;> ((have hg0 := hg); (try simp only [decide_eq_true_eq, decide_eq_false_iff_not, Bool.not_eq_true', Bool.not_eq_false', beq_iff_eq, beq_eq_false_iff_ne, bne_iff_ne, ne_eq, bne_eq_false_iff_eq, List.isEmpty_iff, List.isEmpty_eq_false_iff] at hg) <;> (try simp [hg0, hg]) <;> clear hg0) <;> (try (revert hg; intro _))) | (refine boolK_by ?_ ?_ <;> intro hg <;> ((have hg0 := hg); (try simp only [decide_eq_true_eq, decide_eq_false_iff_not, Bool.not_eq_true', Bool.not_eq_false', beq_iff_eq, beq_eq_false_iff_ne, bne_iff_ne, ne_eq, bne_eq_false_iff_eq, List.isEmpty_iff, List.isEmpty_eq_false_iff] at hg) <;> (try simp [hg0, hg]) <;> clear hg0) <;> (try (revert hg; intro _))))
        · rename_i hne
          rw [hc2, if_pos hne]
        · rename_i hne
          rw [if_neg (by simpa using hne), List.drop_drop] at hc2
          refine loopK_back { env := [4, 3, 0] } (l.length - (i + 1 + k)) (by omega) ⟨i + 1 + k, rfl, by omega, n + (1 - needsR l[i]), by omega, by omega, hc2, ?_⟩
          rw [hk'] at hws2 hws3
          simp [hk', hws2, hws3, hN1, hN2]
          omega
      · refine loopK_back { env := [4, 3, 0] } (l.length - (i + 1)) (by omega) ⟨i + 1, rfl, by omega, n + (1 - needsR l[i]), by omega, by omega, by rw [hc]; simp [*], ?_⟩
        simp [hb, hN1, hN2]
    · obtain rfl : i = l.length := by omega
      rw [List.drop_length, wholeGo] at hc
      simp [hc]
def mayE (l : List OpT) : Bool := if (l.length : Int) ≤ 32 then wholeGo l 0 else false
theorem f38 (X : CallRel) (l : List OpT) (h : ∀ o ∈ l, o.term.small) : Run cfg X 38 [.agg [.sl (l.map OpT.cells)]] m0 (.bool (mayE l)) m0 := by
  refine Run.fn [.tmp 2] [4] Tryz.func38 rfl (by simp [Tryz.ntmps38]) rfl rfl (by kernel_rfl) ?_
  simp
  (repeat' (first | (first | (refine guardK_true ?_ ?_ <;> intro hg <;> ((have hg0 := hg); (try simp only [decide_eq_true_eq, decide_eq_false_iff_not, Bool.not_eq_true', Bool.not_eq_false', beq_iff_eq, beq_eq_false_iff_ne, bne_iff_ne, ne_eq, bne_eq_false_iff_eq, List.isEmpty_iff, List.isEmpty_eq_false_iff] at hg) <;> (try simp [hg0, hg]) <;> clear hg0) <;> (try (revert hg; intro _))) | (refine guardK_false ?_ ?_ <;> intro hg <;> ((have hg0 := hg); (try simp only [decide_eq_true_eq, decide_eq_false_iff_not, Bool.not_eq_true', Bool.not_eq_false', beq_iff_eq, beq_eq_false_iff_ne, bne_iff_ne, ne_eq, bne_eq_false_iff_eq, List.isEmpty_iff, List.isEmpty_eq_false_iff] at hg) <;> (try simp [hg0, hg]) <;> clear hg0) <;> (try (revert hg; intro _))) | (refine boolK_by ?_ ?_ <;> intro hg <;> ((have hg0 := hg); (try simp only [decide_eq_true_eq, decide_eq_false_iff_not, Bool.not_eq_true', Bool.not_eq_false', beq_iff_eq, beq_eq_false_iff_ne, bne_iff_ne, ne_eq, bne_eq_false_iff_eq, List.isEmpty_iff, List.isEmpty_eq_false_iff] at hg) <;> (try simp [hg0, hg]) <;> clear hg0) <;> (try (revert hg; intro _)))) | (refine And.intro ?_ ?_; (first | assumption | omega | kernel_rfl); try simp)))
  any_goals (simp [mayE, *]; done)
  refine runK_of (f82 X _ l (Nat.lt_succ_self _) (by omega) h) ?_
  simp [mayE, *]
end Go.Vm

namespace Go.Vm
open Go Go.Proofs
def joinS (sep : S) : List S → S
  | [] => []
  | [x] => x
  | x :: y :: r => x ++ sep ++ joinS sep (y :: r)
theorem f97 (X : CallRel) (g : FuncId) (tx : Tm → S) (xs : List Tm) (sep : S) (hlen : xs.length ≤ 1000) (h179 : ¬ g = 179) (h180 : ¬ g = 180) (hg : ∀ x ∈ xs, Run cfg X g [.agg x.cells] m0 (.str (bs (tx x))) m0)
    (hj : Run cfg X 93 [.sl ((xs.map tx).map fun s => [.str (bs s)]), .str (bs sep)] m0 (.str (bs (joinS sep (xs.map tx)))) m0) :
    Run cfg X 97 [.sl (xs.map Tm.cells), .fn (.func g) [] [], .str (bs sep)] m0 (.str (bs (joinS sep (xs.map tx)))) m0 := by
  refine Run.fn [.tmp 6] [9] Tryz.func97 rfl (by simp [Tryz.ntmps97]) rfl rfl (by kernel_rfl) ?_
  simp
  refine wp_loop (fun n s => ∃ i : Nat, n = xs.length - i ∧ i ≤ xs.length ∧ s = ⟨[(12, .int .i64 i), (11, .int .i64 xs.length), (10, .sl (xs.map Tm.cells)), (7, .osl 0), (1, .fn (.func g) [] []), (2, .str (bs sep))],
      ⟨[], [.live 9 1 ((xs.take i).map fun x => [.str (bs (tx x))])], [], []⟩⟩) { env := [12, 11, 10, 7, 1, 2], nils := [(7, 9, 1)] } xs.length ⟨0, by simp, by simp, by simp⟩ ?_
  rintro n s ⟨i, rfl, hi, rfl⟩
  by_cases hlt : i < xs.length
  · have hm := hg xs[i] (List.getElem_mem hlt)
    simp only [Tm.cells_eq] at hm
    simp [hlt, Tm.cells_eq, h179, h180]
    refine runK_of hm ?_
    simp
    refine ⟨by simp [allLen, roomy]; omega, loopK_back { env := [12, 11, 10, 7, 1, 2] } (xs.length - (i + 1)) (by omega) ⟨i + 1, rfl, by omega, ?_⟩⟩
    simp [wrap64_id (n := (i : Int) + 1) (by omega) (by omega)]
    rw [List.take_add_one]; simp [hlt]
  · obtain rfl : i = xs.length := by omega
    simp
    refine runK_of (by simpa [Function.comp_def] using hj) ?_
    simp
theorem joinS_len (sep : S) (n : Nat) : ∀ ss : List S, (∀ s ∈ ss, s.length ≤ n) → (joinS sep ss).length ≤ ss.length * (n + sep.length)
  | [], _ => by simp [joinS]
  | [x], h => by
    have := h x (by simp)
    simp only [joinS, List.length_cons, List.length_nil]
    omega
  | x :: y :: r, h => by
    have h1 := h x (by simp)
    have h2 := joinS_len sep n (y :: r) fun s hs => h s (List.mem_cons_of_mem _ hs)
    simp only [joinS, List.length_append, List.length_cons] at h2 ⊢
    rw [Nat.add_mul]
    omega
end Go.Vm

namespace Go.Vm
open Go Go.Proofs
/-- What print makes of an operation. -/
structure Side where
  s : S
  op : Bool
  num : Bool
def Side.cells (x : Side) : List V := [.str (bs x.s), .bool x.op, .bool x.num]
def Side.text (x : Side) : S := if x.op = true then 40 :: x.s ++ [41] else x.s
theorem Side.text_len (x : Side) : x.text.length ≤ x.s.length + 2 := by
  unfold Side.text
  split <;> simp
theorem f155 (X : CallRel) (x : Side) (h : x.s.length ≤ 100000000) : Run cfg X 155 [.agg x.cells] m0 (.str (bs x.text)) m0 := by
  refine Run.fn [.tmp 2] [9] Tryz.func155 rfl (by simp [Tryz.ntmps155]) rfl rfl (by kernel_rfl) ?_
  simp [Side.cells]
  (first | (refine guardK_true ?_ ?_ <;> intro hg <;> ((have hg0 := hg); (try simp only [decide_eq_true_eq, decide_eq_false_iff_not, Bool.not_eq_true', Bool.not_eq_false', beq_iff_eq, beq_eq_false_iff_ne, bne_iff_ne, ne_eq, bne_eq_false_iff_eq, List.isEmpty_iff, List.isEmpty_eq_false_iff] at hg) <;> (try simp [hg0, hg]) <;> clear hg0) <;> (try (revert hg; intro _))) | (refine guardK_false ?_ ?_ <;> intro hg <;> ((have hg0 := hg); (try simp only [decide_eq_true_eq, decide_eq_false_iff_not, Bool.not_eq_true', Bool.not_eq_false', beq_iff_eq, beq_eq_false_iff_ne, bne_iff_ne, ne_eq, bne_eq_false_iff_eq, List.isEmpty_iff, List.isEmpty_eq_false_iff] at hg) <;> (try simp [hg0, hg]) <;> clear hg0) <;> (try (revert hg; intro _))) | (refine boolK_by ?_ ?_ <;> intro hg <;> ((have hg0 := hg); (try simp only [decide_eq_true_eq, decide_eq_false_iff_not, Bool.not_eq_true', Bool.not_eq_false', beq_iff_eq, beq_eq_false_iff_ne, bne_iff_ne, ne_eq, bne_eq_false_iff_eq, List.isEmpty_iff, List.isEmpty_eq_false_iff] at hg) <;> (try simp [hg0, hg]) <;> clear hg0) <;> (try (revert hg; intro _))))
  · simp [Side.text, *]
    omega
  · simp [Side.text, *]
def unaryR (code : Int) (x : Side) : Side :=
  ⟨if code = 3 then x.text ++ [46, 108, 101, 110, 103, 116, 104, 40, 41] else if code = 1 then 33 :: x.text else if x.num = true then 45 :: 40 :: x.text ++ [41] else 45 :: x.text, true, false⟩
theorem f153 (X : CallRel) (code : Int) (x : Side) (h : x.s.length ≤ 100000000) : Run cfg X 153 [.int .i64 code, .agg x.cells] m0 (.agg (unaryR code x).cells) m0 := by
  have ht := x.text_len
  have h1 := f155 X x h
  simp only [Side.cells] at h1
  refine Run.fn [.cell 4 127] [127] Tryz.func153 rfl (by simp [Tryz.ntmps153]) rfl rfl (by kernel_rfl) ?_
  simp [Side.cells]
  refine runK_of h1 ?_
  simp
  repeat' (first | (refine guardK_true ?_ ?_ <;> intro hg <;> ((have hg0 := hg); (try simp only [decide_eq_true_eq, decide_eq_false_iff_not, Bool.not_eq_true', Bool.not_eq_false', beq_iff_eq, beq_eq_false_iff_ne, bne_iff_ne, ne_eq, bne_eq_false_iff_eq, List.isEmpty_iff, List.isEmpty_eq_false_iff] at hg) <;> (try simp [hg0, hg]) <;> clear hg0) <;> (try (revert hg; intro _))) | (refine guardK_false ?_ ?_ <;> intro hg <;> ((have hg0 := hg); (try simp only [decide_eq_true_eq, decide_eq_false_iff_not, Bool.not_eq_true', Bool.not_eq_false', beq_iff_eq, beq_eq_false_iff_ne, bne_iff_ne, ne_eq, bne_eq_false_iff_eq, List.isEmpty_iff, List.isEmpty_eq_false_iff] at hg) <;> (try simp [hg0, hg]) <;> clear hg0) <;> (try (revert hg; intro _))) | (refine boolK_by ?_ ?_ <;> intro hg <;> ((have hg0 := hg); (try simp only [decide_eq_true_eq, decide_eq_false_iff_not, Bool.not_eq_true', Bool.not_eq_false', beq_iff_eq, beq_eq_false_iff_ne, bne_iff_ne, ne_eq, bne_eq_false_iff_eq, List.isEmpty_iff, List.isEmpty_eq_false_iff] at hg) <;> (try simp [hg0, hg]) <;> clear hg0) <;> (try (revert hg; intro _))))
  all_goals
    refine ⟨by omega, ?_⟩
    simp only [unaryR, *, if_true, if_false]
    simp
    try omega
/-- The signs of operations. -/
def signs : List S := [[63], [60], [62], [60, 61], [62, 61], [61, 61], [33, 61], [43], [45], [42], [47], [99, 111, 110, 116, 97, 105, 110, 115], [115, 116, 97, 114, 116, 115], [101, 110, 100, 115], [109, 97, 116, 99, 104, 101, 115], [109, 101, 101, 116], [106, 111, 105, 110], [38], [124], [94]]
def signR (code : Int) : S := (signs[code.toNat]?).getD []
theorem sign_len (code : Int) : (signR code).length ≤ 8 := by
  have : ∀ i : Fin 20, ((signs[i.val]?).getD []).length ≤ 8 := by decide
  unfold signR
  by_cases h : code.toNat < 20
  · exact this ⟨_, h⟩
  · rw [List.getElem?_eq_none (by simp [signs]; omega)]
    simp
def signTable : S := [63, 32, 60, 32, 62, 32, 60, 61, 32, 62, 61, 32, 61, 61, 32, 33, 61, 32, 43, 32, 45, 32, 42, 32, 47, 32, 99, 111, 110, 116, 97, 105, 110, 115, 32, 115, 116, 97, 114, 116, 115, 32, 101, 110, 100, 115, 32, 109, 97, 116, 99, 104, 101, 115, 32, 109, 101, 101, 116, 32, 106, 111, 105, 110, 32, 38, 32, 124, 32, 94]
theorem f208 (X : CallRel) (hsp : Run cfg X 247 [.str (bs signTable), .str (bs [32])] m0 (.sl (signs.map fun s => [.str (bs s)])) m0) (code : Int) (h0 : 0 ≤ code) (h1 : code < 20) : Run cfg X 208 [.int .i64 code] m0 (.str (bs (signR code))) m0 := by
  obtain ⟨k, rfl⟩ : ∃ k : Nat, code = k := ⟨code.toNat, by omega⟩
  have hk : k < 20 := by omega
  have hl : signs.length = 20 := rfl
  refine Run.fn [.tmp 2] [9] Tryz.func208 rfl (by simp [Tryz.ntmps208]) rfl rfl (by kernel_rfl) ?_
  simp
  refine runK_of hsp ?_
  simp
  refine ⟨⟨by omega, ?_⟩, ?_⟩
  · rw [List.getElem?_eq_getElem (by omega)]
    rfl
  · rw [List.getElem?_eq_getElem (by omega)]
    simp [signR, hl, hk]
def binaryR (code : Int) (x y : Side) : Side :=
  if 11 ≤ code ∧ code ≤ 16 then ⟨x.text ++ [46] ++ signR code ++ [40] ++ y.s ++ [41], true, false⟩ else ⟨x.text ++ [32] ++ signR code ++ [32] ++ y.text, true, false⟩
set_option maxHeartbeats 4000000 in
theorem f154 (X : CallRel) (code : Int) (x y : Side) (hs : Run cfg X 208 [.int .i64 code] m0 (.str (bs (signR code))) m0) (hx : x.s.length ≤ 100000000) (hy : y.s.length ≤ 100000000) :
    Run cfg X 154 [.int .i64 code, .agg x.cells, .agg y.cells] m0 (.agg (binaryR code x y).cells) m0 := by
  have htx := x.text_len
  have hty := y.text_len
  have hsl := sign_len code
  have h1 := f155 X x hx
  have h2 := f155 X y hy
  simp only [Side.cells] at h1 h2
  refine Run.fn [.cell 6 127] [127] Tryz.func154 rfl (by simp [Tryz.ntmps154]) rfl rfl (by kernel_rfl) ?_
  simp [Side.cells]
  refine runK_of hs ?_
  simp
  repeat' (first | (refine guardK_true ?_ ?_ <;> intro hg <;> ((have hg0 := hg); (try simp only [decide_eq_true_eq, decide_eq_false_iff_not, Bool.not_eq_true', Bool.not_eq_false', beq_iff_eq, beq_eq_false_iff_ne, bne_iff_ne, ne_eq, bne_eq_false_iff_eq, List.isEmpty_iff, List.isEmpty_eq_false_iff] at hg) <;> (try simp [hg0, hg]) <;> clear hg0) <;> (try (revert hg; intro _))) | (refine guardK_false ?_ ?_ <;> intro hg <;> ((have hg0 := hg); (try simp only [decide_eq_true_eq, decide_eq_false_iff_not, Bool.not_eq_true', Bool.not_eq_false', beq_iff_eq, beq_eq_false_iff_ne, bne_iff_ne, ne_eq, bne_eq_false_iff_eq, List.isEmpty_iff, List.isEmpty_eq_false_iff] at hg) <;> (try simp [hg0, hg]) <;> clear hg0) <;> (try (revert hg; intro _))) | (refine boolK_by ?_ ?_ <;> intro hg <;> ((have hg0 := hg); (try simp only [decide_eq_true_eq, decide_eq_false_iff_not, Bool.not_eq_true', Bool.not_eq_false', beq_iff_eq, beq_eq_false_iff_ne, bne_iff_ne, ne_eq, bne_eq_false_iff_eq, List.isEmpty_iff, List.isEmpty_eq_false_iff] at hg) <;> (try simp [hg0, hg]) <;> clear hg0) <;> (try (revert hg; intro _))))
  · have hc : 11 ≤ code ∧ code ≤ 16 := ⟨by assumption, by assumption⟩
    have hu : binaryR code x y = ⟨x.text ++ [46] ++ signR code ++ [40] ++ y.s ++ [41], true, false⟩ := by simp only [binaryR, if_pos hc]
    rw [hu]
    refine runK_of h1 ?_
    simp
    refine ⟨by omega, by omega, by omega, by omega, by omega, ?_⟩
    kernel_rfl
  all_goals
    have hc : ¬ (11 ≤ code ∧ code ≤ 16) := by omega
    have hu : binaryR code x y = ⟨x.text ++ [32] ++ signR code ++ [32] ++ y.text, true, false⟩ := by simp only [binaryR, if_neg hc]
    rw [hu]
    refine runK_of h1 ?_
    simp
    refine ⟨by omega, by omega, by omega, ?_⟩
    refine runK_of h2 ?_
    simp
    refine ⟨by omega, ?_⟩
    kernel_rfl
end Go.Vm

namespace Go.Vm
open Go Go.Proofs
def stk (l : List Side) : Mem := ⟨[[.osl 0]], [.live 127 3 (l.map Side.cells)], [], []⟩
theorem f151 (X : CallRel) (l : List Side) (x : Side) (hl : l.length ≤ 1000) : Run cfg X 151 [.ptr 0 0] (stk (l ++ [x])) (.agg x.cells) (stk l) := by
  have hw : IntKind.i64.wrap (l.length : Int) = (l.length : Int) := wrap64_id (by omega) (by omega)
  refine Run.fn [.cell 1 127] [127] Tryz.func151 rfl (by simp [Tryz.ntmps151]) rfl rfl (by kernel_rfl) ?_
  simp [stk, Side.cells]
  rw [hw]
  refine ⟨⟨by omega, by omega⟩, ?_⟩
  have hg : (l.map Side.cells ++ [[V.str (bs x.s), V.bool x.op, V.bool x.num]])[l.length]? = some [V.str (bs x.s), V.bool x.op, V.bool x.num] := by
    rw [List.getElem?_append_right (by simp)]
    simp
  have ht : (l.map Side.cells ++ [[V.str (bs x.s), V.bool x.op, V.bool x.num]]).take l.length = l.map Side.cells := List.take_left' (by simp)
  simp [tokXs, hg, hw, ht]
  omega
/-- What print makes of operations, the sides made before lying on the stack; the top first. -/
def opsGo (lf : Tm → Side) : List OpT → List Side → Option (List Side)
  | [], st => some st
  | o :: r, st =>
    if o.kind = 1 then opsGo lf r (lf o.term :: st)
    else if o.kind = 2 then
      match st with
      | x :: st => opsGo lf r (unaryR o.code x :: st)
      | _ => none
    else if o.kind = 3 then
      match st with
      | y :: x :: st => opsGo lf r (binaryR o.code x y :: st)
      | _ => none
    else if o.skip < 1 then none
    else if (r.length : Int) < o.skip then none
    else
      match st, opsGo lf (r.take o.skip.toNat) [] with
      | x :: st, some [y] => opsGo lf (r.drop o.skip.toNat) (⟨x.text ++ (if o.kind = 5 then [32, 124, 124, 32] else [32, 38, 38, 32]) ++ y.text, true, false⟩ :: st)
      | _, _ => none
termination_by l => l.length
decreasing_by all_goals simp_all <;> omega
def tot : List Side → Nat
  | [] => 0
  | x :: r => x.s.length + tot r
theorem unary_len (code : Int) (x : Side) : (unaryR code x).s.length ≤ x.s.length + 12 := by
  have := x.text_len
  simp only [unaryR]
  split
  · simp; omega
  · split
    · simp; omega
    · split <;> simp <;> omega
theorem binary_len (code : Int) (x y : Side) : (binaryR code x y).s.length ≤ x.s.length + y.s.length + 20 := by
  have := x.text_len
  have := y.text_len
  have := sign_len code
  simp only [binaryR]
  split <;> simp <;> omega
theorem opsGo_tot (lf : Tm → Side) : ∀ (N : Nat) (l : List OpT) (st st' : List Side), l.length < N → (∀ o ∈ l, o.kind = 1 → (lf o.term).s.length ≤ 18000) → opsGo lf l st = some st' → tot st' ≤ tot st + 20000 * l.length := by
  intro N
  induction N with
  | zero => exact fun l _ _ h => absurd h (Nat.not_lt_zero _)
  | succ N ih =>
    intro l st st' hN hlf h
    cases l with
    | nil =>
      rw [opsGo] at h
      cases h
      simp
    | cons o r =>
      simp only [List.length_cons] at hN ⊢
      have hr : ∀ x ∈ r, x.kind = 1 → (lf x.term).s.length ≤ 18000 := fun x hx => hlf x (List.mem_cons_of_mem _ hx)
      rw [opsGo.eq_def] at h
      dsimp only at h
      split at h
      · have := ih r _ _ (by omega) hr h
        have := hlf o (List.mem_cons_self ..) (by assumption)
        simp only [tot] at *
        omega
      · split at h
        · split at h
          · rename_i x st0
            have := ih r _ _ (by omega) hr h
            have := unary_len o.code x
            simp only [tot] at *
            omega
          · cases h
        · split at h
          · split at h
            · rename_i y x st0
              have := ih r _ _ (by omega) hr h
              have := binary_len o.code x y
              simp only [tot] at *
              omega
            · cases h
          · split at h
            · cases h
            · split at h
              · cases h
              · split at h
                · rename_i x st0 y hy
                  have a1 := ih (r.take o.skip.toNat) _ _ (by simp; omega) (fun x hx => hr x (List.mem_of_mem_take hx)) hy
                  have a2 := ih (r.drop o.skip.toNat) _ _ (by simp; omega) (fun x hx => hr x (List.mem_of_mem_drop hx)) h
                  have b1 := x.text_len
                  have b2 := y.text_len
                  have b3 : (if o.kind = 5 then ([32, 124, 124, 32] : S) else [32, 38, 38, 32]).length = 4 := by split <;> rfl
                  simp only [tot, List.length_append, b3, List.length_take, List.length_drop] at *
                  omega
                · cases h
set_option maxHeartbeats 8000000 in
theorem f83 (X : CallRel) (lf : Tm → Side) : ∀ (N : Nat) (l : List OpT) (y : Side), l.length < N → l.length ≤ 1000 → (∀ o ∈ l, o.kind = 1 → (lf o.term).s.length ≤ 18000 ∧ Run cfg X 152 [.agg o.term.cells] m0 (.agg (lf o.term).cells) m0) →
    (∀ o ∈ l, o.kind = 3 → Run cfg X 208 [.int .i64 o.code] m0 (.str (bs (signR o.code))) m0) → opsGo lf l [] = some [y] → Run cfg X 83 [.sl (l.map OpT.cells)] m0 (.agg y.cells) m0 := by
  intro N
  induction N with
  | zero => exact fun l _ h => absurd h (Nat.not_lt_zero _)
  | succ N ih =>
    intro l y hN hl hlf hsg hy
    refine Run.fn [.cell 2 127] [127] Tryz.func83 rfl (by simp [Tryz.ntmps83]) rfl rfl (by kernel_rfl) ?_
    simp
    refine wp_loop (fun k s => ∃ i : Nat, k = l.length - i ∧ i ≤ l.length ∧ ∃ st : List Side, st.length ≤ i ∧ tot st ≤ 20000 * i ∧ opsGo lf (l.drop i) st = some [y] ∧
        s = ⟨[(2, .ptr 0 0), (5, .int .i64 i), (4, .fn (.func 151) [] [.ptr 1 0]), (3, .ptr 1 0), (0, .sl (l.map OpT.cells))], ⟨[[.str (bs []), .bool false, .bool false], [.osl 0]], [.live 127 3 (st.reverse.map Side.cells)], [], []⟩⟩)
      { env := [2, 5, 4, 3, 0], bnils := [(1, 0, 127, 3)] } l.length ⟨0, by simp, by simp, [], by simp, by simp [tot], by simpa using hy, by simp⟩ ?_
    rintro k s ⟨i, rfl, hi, st, hst, htt, hc, rfl⟩
    simp
    (first | (refine guardK_true ?_ ?_ <;> intro hg <;> ((have hg0 := hg); (try simp only [decide_eq_true_eq, decide_eq_false_iff_not, Bool.not_eq_true', Bool.not_eq_false', beq_iff_eq, beq_eq_false_iff_ne, bne_iff_ne, ne_eq, bne_eq_false_iff_eq, List.isEmpty_iff, List.isEmpty_eq_false_iff] at hg) <;> (try simp [hg0, hg]) <;> clear hg0) <;> (try (revert hg; intro _))) | (refine guardK_false ?_ ?_ <;> intro hg <;> ((have hg0 := hg); (try simp only [decide_eq_true_eq, decide_eq_false_iff_not, Bool.not_eq_true', Bool.not_eq_false', beq_iff_eq, beq_eq_false_iff_ne, bne_iff_ne, ne_eq, bne_eq_false_iff_eq, List.isEmpty_iff, List.isEmpty_eq_false_iff] at hg) <;> (try simp [hg0, hg]) <;> clear hg0) <;> (try (revert hg; intro _))) | (refine boolK_by ?_ ?_ <;> intro hg <;> ((have hg0 := hg); (try simp only [decide_eq_true_eq, decide_eq_false_iff_not, Bool.not_eq_true', Bool.not_eq_false', beq_iff_eq, beq_eq_false_iff_ne, bne_iff_ne, ne_eq, bne_eq_false_iff_eq, List.isEmpty_iff, List.isEmpty_eq_false_iff] at hg) <;> (try simp [hg0, hg]) <;> clear hg0) <;> (try (revert hg; intro _))))
    · rename_i hlt
      rw [List.drop_eq_getElem_cons hlt, opsGo.eq_def] at hc
      dsimp only at hc
      have hb : IntKind.i64.wrap ((i : Int) + 1) = (i : Int) + 1 := wrap64_id (by omega) (by omega)
      simp [OpT.cells]
      (first | (refine guardK_true ?_ ?_ <;> intro hg <;> ((have hg0 := hg); (try simp only [decide_eq_true_eq, decide_eq_false_iff_not, Bool.not_eq_true', Bool.not_eq_false', beq_iff_eq, beq_eq_false_iff_ne, bne_iff_ne, ne_eq, bne_eq_false_iff_eq, List.isEmpty_iff, List.isEmpty_eq_false_iff] at hg) <;> (try simp [hg0, hg]) <;> clear hg0) <;> (try (revert hg; intro _))) | (refine guardK_false ?_ ?_ <;> intro hg <;> ((have hg0 := hg); (try simp only [decide_eq_true_eq, decide_eq_false_iff_not, Bool.not_eq_true', Bool.not_eq_false', beq_iff_eq, beq_eq_false_iff_ne, bne_iff_ne, ne_eq, bne_eq_false_iff_eq, List.isEmpty_iff, List.isEmpty_eq_false_iff] at hg) <;> (try simp [hg0, hg]) <;> clear hg0) <;> (try (revert hg; intro _))) | (refine boolK_by ?_ ?_ <;> intro hg <;> ((have hg0 := hg); (try simp only [decide_eq_true_eq, decide_eq_false_iff_not, Bool.not_eq_true', Bool.not_eq_false', beq_iff_eq, beq_eq_false_iff_ne, bne_iff_ne, ne_eq, bne_eq_false_iff_eq, List.isEmpty_iff, List.isEmpty_eq_false_iff] at hg) <;> (try simp [hg0, hg]) <;> clear hg0) <;> (try (revert hg; intro _))))
      · have hk : l[i].kind = 1 := by assumption
        rw [if_pos hk] at hc
        obtain ⟨g1, g2⟩ := hlf l[i] (List.getElem_mem hlt) hk
        simp only [Tm.cells_eq, Side.cells] at g2
        refine runK_of g2 ?_
        simp
        refine ⟨⟨by simp [allLen], by simp only [roomy]; omega, by omega⟩, by kernel_rfl, loopK_back { env := [2, 5, 4, 3, 0] } (l.length - (i + 1)) (by omega) ⟨i + 1, rfl, by omega, lf l[i].term :: st, by simp; omega, by simp only [tot]; omega, hc, ?_⟩⟩
        simp [hb, Side.cells]
      (first | (refine guardK_true ?_ ?_ <;> intro hg <;> ((have hg0 := hg); (try simp only [decide_eq_true_eq, decide_eq_false_iff_not, Bool.not_eq_true', Bool.not_eq_false', beq_iff_eq, beq_eq_false_iff_ne, bne_iff_ne, ne_eq, bne_eq_false_iff_eq, List.isEmpty_iff, List.isEmpty_eq_false_iff] at hg) <;> (try simp [hg0, hg]) <;> clear hg0) <;> (try (revert hg; intro _))) | (refine guardK_false ?_ ?_ <;> intro hg <;> ((have hg0 := hg); (try simp only [decide_eq_true_eq, decide_eq_false_iff_not, Bool.not_eq_true', Bool.not_eq_false', beq_iff_eq, beq_eq_false_iff_ne, bne_iff_ne, ne_eq, bne_eq_false_iff_eq, List.isEmpty_iff, List.isEmpty_eq_false_iff] at hg) <;> (try simp [hg0, hg]) <;> clear hg0) <;> (try (revert hg; intro _))) | (refine boolK_by ?_ ?_ <;> intro hg <;> ((have hg0 := hg); (try simp only [decide_eq_true_eq, decide_eq_false_iff_not, Bool.not_eq_true', Bool.not_eq_false', beq_iff_eq, beq_eq_false_iff_ne, bne_iff_ne, ne_eq, bne_eq_false_iff_eq, List.isEmpty_iff, List.isEmpty_eq_false_iff] at hg) <;> (try simp [hg0, hg]) <;> clear hg0) <;> (try (revert hg; intro _))))
      · have hk : l[i].kind = 2 := by assumption
        rw [if_neg (by omega), if_pos hk] at hc
        cases st with
        | nil => cases hc
        | cons x st =>
          dsimp only at hc
          simp only [List.length_cons, tot] at hst htt
          have g0 := unary_len l[i].code x
          have g1 := f151 X st.reverse x (by simp; omega)
          have g2 := f153 X l[i].code x (by omega)
          simp [Side.cells, stk] at g1 g2
          simp [Side.cells]
          refine runK_of g1 ?_
          simp
          refine runK_of g2 ?_
          simp
          refine ⟨⟨by simp [allLen], by simp only [roomy]; omega, by omega⟩, loopK_back { env := [2, 5, 4, 3, 0] } (l.length - (i + 1)) (by omega) ⟨i + 1, rfl, by omega, unaryR l[i].code x :: st, by simp; omega, by simp only [tot]; omega, hc, ?_⟩⟩
          simp [hb, Side.cells]
      (first | (refine guardK_true ?_ ?_ <;> intro hg <;> ((have hg0 := hg); (try simp only [decide_eq_true_eq, decide_eq_false_iff_not, Bool.not_eq_true', Bool.not_eq_false', beq_iff_eq, beq_eq_false_iff_ne, bne_iff_ne, ne_eq, bne_eq_false_iff_eq, List.isEmpty_iff, List.isEmpty_eq_false_iff] at hg) <;> (try simp [hg0, hg]) <;> clear hg0) <;> (try (revert hg; intro _))) | (refine guardK_false ?_ ?_ <;> intro hg <;> ((have hg0 := hg); (try simp only [decide_eq_true_eq, decide_eq_false_iff_not, Bool.not_eq_true', Bool.not_eq_false', beq_iff_eq, beq_eq_false_iff_ne, bne_iff_ne, ne_eq, bne_eq_false_iff_eq, List.isEmpty_iff, List.isEmpty_eq_false_iff] at hg) <;> (try simp [hg0, hg]) <;> clear hg0) <;> (try (revert hg; intro _))) | (refine boolK_by ?_ ?_ <;> intro hg <;> ((have hg0 := hg); (try simp only [decide_eq_true_eq, decide_eq_false_iff_not, Bool.not_eq_true', Bool.not_eq_false', beq_iff_eq, beq_eq_false_iff_ne, bne_iff_ne, ne_eq, bne_eq_false_iff_eq, List.isEmpty_iff, List.isEmpty_eq_false_iff] at hg) <;> (try simp [hg0, hg]) <;> clear hg0) <;> (try (revert hg; intro _))))
      · have hk : l[i].kind = 3 := by assumption
        rw [if_neg (by omega), if_neg (by omega), if_pos hk] at hc
        cases st with
        | nil => cases hc
        | cons z st =>
          cases st with
          | nil => cases hc
          | cons x st =>
            dsimp only at hc
            simp only [List.length_cons, tot] at hst htt
            have g0 := binary_len l[i].code x z
            have g1 := f151 X (st.reverse ++ [x]) z (by simp; omega)
            have g2 := f151 X st.reverse x (by simp; omega)
            have g3 := f154 X l[i].code x z (hsg _ (List.getElem_mem hlt) hk) (by omega) (by omega)
            simp [Side.cells, stk] at g1 g2 g3
            simp [Side.cells]
            refine runK_of g1 ?_
            simp
            refine runK_of g2 ?_
            simp
            refine runK_of g3 ?_
            simp
            refine ⟨⟨by simp [allLen], by simp only [roomy]; omega, by omega⟩, loopK_back { env := [2, 5, 4, 3, 0] } (l.length - (i + 1)) (by omega) ⟨i + 1, rfl, by omega, binaryR l[i].code x z :: st, by simp; omega, by simp only [tot]; omega, hc, ?_⟩⟩
            simp [hb, Side.cells]
      rw [if_neg (by assumption), if_neg (by assumption), if_neg (by assumption)] at hc
      have hs0 : ¬ l[i].skip < 1 := fun h => by rw [if_pos h] at hc; cases hc
      rw [if_neg hs0] at hc
      have hs1 : ¬ ((l.drop (i + 1)).length : Int) < l[i].skip := fun h => by rw [if_pos h] at hc; cases hc
      rw [if_neg hs1] at hc
      have hdl : ((l.drop (i + 1)).length : Int) = (l.length : Int) - 1 - i := by simp; omega
      rw [hdl] at hs1
      obtain ⟨k, hk'⟩ : ∃ k : Nat, l[i].skip = k := ⟨l[i].skip.toNat, by omega⟩
      have hws : IntKind.i64.wrap ((i : Int) + 1 + l[i].skip) = (i : Int) + 1 + l[i].skip := wrap64_id (by omega) (by omega)
      have hws2 : IntKind.i64.wrap ((i : Int) + l[i].skip) = (i : Int) + l[i].skip := wrap64_id (by omega) (by omega)
      have hws3 : IntKind.i64.wrap ((i : Int) + l[i].skip + 1) = (i : Int) + l[i].skip + 1 := wrap64_id (by omega) (by omega)
      have ht : ((i : Int) + 1 + l[i].skip).toNat = i + 1 + k := by omega
      have ht2 : ((i : Int) + 1).toNat = i + 1 := by omega
      have hks : l[i].skip.toNat = k := by omega
      rw [hks] at hc
      have hsl : ((l.map OpT.cells).take (i + 1 + k)).drop (i + 1) = ((l.drop (i + 1)).take k).map OpT.cells := by
        rw [List.drop_take, ← List.map_drop, ← List.map_take]
        congr 2
        omega
      have hall : allLen (l.map OpT.cells) 7 := fun x hx => by
        obtain ⟨o, _, rfl⟩ := List.mem_map.1 hx
        rfl
      cases st with
      | nil => cases hc
      | cons x st =>
        simp only [List.length_cons, tot] at hst htt
        split at hc
        case h_2 => cases hc
        rename_i _ _ x' st' z heq hz
        cases heq
        have hmem : ∀ o ∈ (l.drop (i + 1)).take k, o ∈ l := fun o ho => List.mem_of_mem_drop (List.mem_of_mem_take ho)
        have gz := opsGo_tot lf _ _ _ _ (Nat.lt_succ_self _) (fun o ho h1 => (hlf o (hmem o ho) h1).1) hz
        have hlz : ((l.drop (i + 1)).take k).length = k := by simp; omega
        simp only [tot, hlz] at gz
        have b1 := x.text_len
        have b2 := z.text_len
        have g0 := ih ((l.drop (i + 1)).take k) z (by omega) (by omega) (fun o ho => hlf o (hmem o ho)) (fun o ho => hsg o (hmem o ho)) hz
        have g1 := f151 X st.reverse x (by simp; omega)
        have g2 := f155 X x (by omega)
        have g3 := f155 X z (by omega)
        simp only [Side.cells, stk] at g0 g2 g3
        simp [Side.cells, stk] at g1
        (first | (refine guardK_true ?_ ?_ <;> intro hg <;> ((have hg0 := hg); (try simp only [decide_eq_true_eq, decide_eq_false_iff_not, Bool.not_eq_true', Bool.not_eq_false', beq_iff_eq, beq_eq_false_iff_ne, bne_iff_ne, ne_eq, bne_eq_false_iff_eq, List.isEmpty_iff, List.isEmpty_eq_false_iff] at hg) <;> (try simp [hg0, hg]) <;> clear hg0) <;> (try (revert hg; intro _))) | (refine guardK_false ?_ ?_ <;> intro hg <;> ((have hg0 := hg); (try simp only [decide_eq_true_eq, decide_eq_false_iff_not, Bool.not_eq_true', Bool.not_eq_false', beq_iff_eq, beq_eq_false_iff_ne, bne_iff_ne, ne_eq, bne_eq_false_iff_eq, List.isEmpty_iff, List.isEmpty_eq_false_iff] at hg) <;> (try simp [hg0, hg]) <;> clear hg0) <;> (try (revert hg; intro _))) | (refine boolK_by ?_ ?_ <;> intro hg <;> ((have hg0 := hg); (try simp only [decide_eq_true_eq, decide_eq_false_iff_not, Bool.not_eq_true', Bool.not_eq_false', beq_iff_eq, beq_eq_false_iff_ne, bne_iff_ne, ne_eq, bne_eq_false_iff_eq, List.isEmpty_iff, List.isEmpty_eq_false_iff] at hg) <;> (try simp [hg0, hg]) <;> clear hg0) <;> (try (revert hg; intro _))))
        · have h5 : l[i].kind = 5 := by assumption
          rw [if_pos h5, List.drop_drop] at hc
          simp [Side.cells]
          refine ⟨⟨by rw [hb]; omega, by rw [hb, hws]; omega, by rw [hb, hws]; omega, hall⟩, ?_⟩
          simp only [hb, hws, ht, ht2, hsl]
          refine runK_of g0 ?_
          simp
          refine runK_of g1 ?_
          simp
          refine runK_of g2 ?_
          simp
          refine runK_of g3 ?_
          simp
          refine ⟨by omega, by omega, ⟨by simp [allLen], by simp only [roomy]; omega, by omega⟩, loopK_back { env := [2, 5, 4, 3, 0] } (l.length - (i + 1 + k)) (by omega) ⟨i + 1 + k, rfl, by omega, ⟨x.text ++ [32, 124, 124, 32] ++ z.text, true, false⟩ :: st, by simp; omega, by simp only [tot, List.length_append, List.length_cons, List.length_nil]; omega, hc, ?_⟩⟩
          rw [hk'] at hws2 hws3
          simp [hk', hws2, hws3, Side.cells]
          omega
        · have h5 : ¬ l[i].kind = 5 := by assumption
          rw [if_neg h5, List.drop_drop] at hc
          simp [Side.cells]
          refine ⟨⟨by rw [hb]; omega, by rw [hb, hws]; omega, by rw [hb, hws]; omega, hall⟩, ?_⟩
          simp only [hb, hws, ht, ht2, hsl]
          refine runK_of g0 ?_
          simp
          refine runK_of g1 ?_
          simp
          refine runK_of g2 ?_
          simp
          refine runK_of g3 ?_
          simp
          refine ⟨by omega, by omega, ⟨by simp [allLen], by simp only [roomy]; omega, by omega⟩, loopK_back { env := [2, 5, 4, 3, 0] } (l.length - (i + 1 + k)) (by omega) ⟨i + 1 + k, rfl, by omega, ⟨x.text ++ [32, 38, 38, 32] ++ z.text, true, false⟩ :: st, by simp; omega, by simp only [tot, List.length_append, List.length_cons, List.length_nil]; omega, hc, ?_⟩⟩
          rw [hk'] at hws2 hws3
          simp [hk', hws2, hws3, Side.cells]
          omega
    · obtain rfl : i = l.length := by omega
      rw [List.drop_length, opsGo.eq_def] at hc
      cases hc
      have g1 := f151 X [] y (by simp)
      simp [Side.cells, stk] at g1
      simp [Side.cells]
      refine runK_of g1 ?_
      simp
end Go.Vm

namespace Go.Vm
open Go Go.Proofs
def digits16 : S := [48, 49, 50, 51, 52, 53, 54, 55, 56, 57, 97, 98, 99, 100, 101, 102]
def hexd (n : Nat) : UInt8 := (digits16[n]?).getD 0
def hexS : S → S
  | [] => []
  | c :: r => hexd (c.toNat / 16) :: hexd (c.toNat % 16) :: hexS r
theorem hexS_append (a b : S) : hexS (a ++ b) = hexS a ++ hexS b := by
  induction a with
  | nil => rfl
  | cons c r ih => simp [hexS, ih]
theorem hexS_length (a : S) : (hexS a).length = 2 * a.length := by
  induction a with
  | nil => rfl
  | cons c r ih => simp [hexS, ih]; omega
def u8s (l : S) : List (List V) := l.map fun c => [V.int .u8 (c.toNat : Int)]
@[simp] theorem bytesOf_u8s (l : S) : bytesOf (u8s l) = some l := by
  induction l with
  | nil => rfl
  | cons c r ih =>
    simp only [u8s, List.map_cons] at ih ⊢
    simp [bytesOf, ih]
theorem u8s_append (a b : S) : u8s (a ++ b) = u8s a ++ u8s b := by simp [u8s]
theorem u8s_cons (a : UInt8) (b : S) : u8s (a :: b) = [V.int .u8 (a.toNat : Int)] :: u8s b := rfl
@[simp] theorem u8s_length (a : S) : (u8s a).length = a.length := by simp [u8s]
theorem hi16 : ∀ c : UInt8, ((c.toNat : Int)).fdiv (2 ^ min 4 IntKind.u8.bits) = ((c.toNat / 16 : Nat) : Int) := by
  have : ∀ n : Fin 256, ((n.val : Int)).fdiv (2 ^ min 4 IntKind.u8.bits) = ((n.val / 16 : Nat) : Int) := by decide +kernel
  exact fun c => this ⟨c.toNat, c.toNat_lt⟩
theorem lo16 : ∀ c : UInt8, IntKind.u8.wrap ↑(c.toNat % 2 ^ IntKind.u8.bits &&& 15 % 2 ^ IntKind.u8.bits) = ((c.toNat % 16 : Nat) : Int) := by
  have : ∀ n : Fin 256, IntKind.u8.wrap ↑(n.val % 2 ^ IntKind.u8.bits &&& 15 % 2 ^ IntKind.u8.bits) = ((n.val % 16 : Nat) : Int) := by decide +kernel
  exact fun c => this ⟨c.toNat, c.toNat_lt⟩
theorem hexS_take {l : S} {i : Nat} (h : i < l.length) : hexS (l.take (i + 1)) = hexS (l.take i) ++ [hexd (l[i].toNat / 16), hexd (l[i].toNat % 16)] := by
  rw [List.take_add_one, hexS_append]
  simp [h, hexS]
theorem f94 (X : CallRel) (l : S) (hl : l.length ≤ 1000000) : Run cfg X 94 [.str (bs l)] m0 (.str (bs (hexS l))) m0 := by
  refine Run.fn [.tmp 2] [9] Tryz.func94 rfl (by simp [Tryz.ntmps94]) rfl rfl (by kernel_rfl) ?_
  simp
  refine wp_loop (fun n s => ∃ i : Nat, n = l.length - i ∧ i ≤ l.length ∧ s = ⟨[(7, .int .i64 i), (6, .int .i64 l.length), (3, .osl 0), (0, .str (bs l))],
      ⟨[], [.live 5 1 (u8s (hexS (l.take i)))], [], []⟩⟩) { env := [7, 6, 3, 0], nils := [(3, 5, 1)] } l.length ⟨0, by simp, by simp, by simp [hexS, u8s]⟩ ?_
  rintro n s ⟨i, rfl, hi, rfl⟩
  simp
  (first | (refine guardK_true ?_ ?_ <;> intro hg <;> ((have hg0 := hg); (try simp only [decide_eq_true_eq, decide_eq_false_iff_not, Bool.not_eq_true', Bool.not_eq_false', beq_iff_eq, beq_eq_false_iff_ne, bne_iff_ne, ne_eq, bne_eq_false_iff_eq, List.isEmpty_iff, List.isEmpty_eq_false_iff] at hg) <;> (try simp [hg0, hg]) <;> clear hg0) <;> (try (revert hg; intro _))) | (refine guardK_false ?_ ?_ <;> intro hg <;> ((have hg0 := hg); (try simp only [decide_eq_true_eq, decide_eq_false_iff_not, Bool.not_eq_true', Bool.not_eq_false', beq_iff_eq, beq_eq_false_iff_ne, bne_iff_ne, ne_eq, bne_eq_false_iff_eq, List.isEmpty_iff, List.isEmpty_eq_false_iff] at hg) <;> (try simp [hg0, hg]) <;> clear hg0) <;> (try (revert hg; intro _))) | (refine boolK_by ?_ ?_ <;> intro hg <;> ((have hg0 := hg); (try simp only [decide_eq_true_eq, decide_eq_false_iff_not, Bool.not_eq_true', Bool.not_eq_false', beq_iff_eq, beq_eq_false_iff_ne, bne_iff_ne, ne_eq, bne_eq_false_iff_eq, List.isEmpty_iff, List.isEmpty_eq_false_iff] at hg) <;> (try simp [hg0, hg]) <;> clear hg0) <;> (try (revert hg; intro _))))
  · rename_i hlt
    have hb : IntKind.i64.wrap ((i : Int) + 1) = (i : Int) + 1 := wrap64_id (by omega) (by omega)
    have hlen := hexS_length (l.take i)
    simp only [List.length_take] at hlen
    have hc := l[i].toNat_lt
    simp only [hi16, lo16]
    refine ⟨⟨by omega, by omega⟩, ⟨by omega, by omega⟩, ⟨by simp [allLen, List.range_succ], by simp only [roomy]; omega, by omega⟩, by kernel_rfl, loopK_back { env := [7, 6, 3, 0] } (l.length - (i + 1)) (by omega) ⟨i + 1, rfl, by omega, ?_⟩⟩
    simp [hb, hexS_take hlt, u8s_append, u8s_cons, List.range_succ, hexd, digits16]
    simp [u8s, show ((l[i].toNat : Int) / 16).toNat = l[i].toNat / 16 by omega, show ((l[i].toNat : Int) % 16).toNat = l[i].toNat % 16 by omega]
  · obtain rfl : i = l.length := by omega
    simp
def quoteC (c : UInt8) : S := if c = 34 ∨ c = 92 then [92, c] else if c = 10 then [92, 110] else if c < 32 ∨ 126 < c then 92 :: 120 :: hexS [c] else [c]
def quoteIn (l : S) : S := l.flatMap quoteC
def quoteS (l : S) : S := 34 :: quoteIn l ++ [34]
theorem quoteC_len (c : UInt8) : (quoteC c).length ≤ 4 := by
  unfold quoteC
  split
  · simp
  · split
    · simp
    · split <;> simp [hexS]
theorem quoteIn_len (l : S) : (quoteIn l).length ≤ 4 * l.length := by
  induction l with
  | nil => simp [quoteIn]
  | cons c r ih =>
    have := quoteC_len c
    simp only [quoteIn, List.flatMap_cons, List.length_append, List.length_cons] at ih ⊢
    omega
theorem f190 (X : CallRel) (b : Bool) : Run cfg X 190 [.bool b] m0 (.str (bs (if b = true then [116, 114, 117, 101] else [102, 97, 108, 115, 101]))) m0 := by
  refine Run.fn [.tmp 2] [9] Tryz.func190 rfl (by simp [Tryz.ntmps190]) rfl rfl (by kernel_rfl) ?_
  simp
  (first | (refine guardK_true ?_ ?_ <;> intro hg <;> ((have hg0 := hg); (try simp only [decide_eq_true_eq, decide_eq_false_iff_not, Bool.not_eq_true', Bool.not_eq_false', beq_iff_eq, beq_eq_false_iff_ne, bne_iff_ne, ne_eq, bne_eq_false_iff_eq, List.isEmpty_iff, List.isEmpty_eq_false_iff] at hg) <;> (try simp [hg0, hg]) <;> clear hg0) <;> (try (revert hg; intro _))) | (refine guardK_false ?_ ?_ <;> intro hg <;> ((have hg0 := hg); (try simp only [decide_eq_true_eq, decide_eq_false_iff_not, Bool.not_eq_true', Bool.not_eq_false', beq_iff_eq, beq_eq_false_iff_ne, bne_iff_ne, ne_eq, bne_eq_false_iff_eq, List.isEmpty_iff, List.isEmpty_eq_false_iff] at hg) <;> (try simp [hg0, hg]) <;> clear hg0) <;> (try (revert hg; intro _))) | (refine boolK_by ?_ ?_ <;> intro hg <;> ((have hg0 := hg); (try simp only [decide_eq_true_eq, decide_eq_false_iff_not, Bool.not_eq_true', Bool.not_eq_false', beq_iff_eq, beq_eq_false_iff_ne, bne_iff_ne, ne_eq, bne_eq_false_iff_eq, List.isEmpty_iff, List.isEmpty_eq_false_iff] at hg) <;> (try simp [hg0, hg]) <;> clear hg0) <;> (try (revert hg; intro _))))
  all_goals simp [*]
theorem f117 (X : CallRel) (b : Bool) : Run cfg X 117 [.bool b] m0 (.str (bs (if b = true then [116, 114, 117, 101] else [102, 97, 108, 115, 101]))) m0 := by
  refine Run.fn [.tmp 2] [9] Tryz.func117 rfl (by simp [Tryz.ntmps117]) rfl rfl (by kernel_rfl) ?_
  simp
  refine runK_of (f190 X b) ?_
  simp
/-! Dates -/
def yearsR (y : Int) : Int := 365 * y + (y + 3) / 4 - (y + 99) / 100 + (y + 399) / 400
theorem f187 (X : CallRel) (y : Int) (h0 : 0 ≤ y) (h1 : y ≤ 1000000) : Run cfg X 187 [.int .i64 y] m0 (.int .i64 (yearsR y)) m0 := by
  have e1 : IntKind.i64.wrap (365 * y) = 365 * y := wrap64_id (by omega) (by omega)
  have e2 : IntKind.i64.wrap (y + 3) = y + 3 := wrap64_id (by omega) (by omega)
  have e3 : IntKind.i64.wrap (y + 99) = y + 99 := wrap64_id (by omega) (by omega)
  have e4 : IntKind.i64.wrap (y + 399) = y + 399 := wrap64_id (by omega) (by omega)
  have d1 : (y + 3).tdiv 4 = (y + 3) / 4 := Int.tdiv_eq_ediv_of_nonneg (by omega)
  have d2 : (y + 99).tdiv 100 = (y + 99) / 100 := Int.tdiv_eq_ediv_of_nonneg (by omega)
  have d3 : (y + 399).tdiv 400 = (y + 399) / 400 := Int.tdiv_eq_ediv_of_nonneg (by omega)
  have q1 : IntKind.i64.wrap ((y + 3) / 4) = (y + 3) / 4 := wrap64_id (by omega) (by omega)
  have q2 : IntKind.i64.wrap ((y + 99) / 100) = (y + 99) / 100 := wrap64_id (by omega) (by omega)
  have q3 : IntKind.i64.wrap ((y + 399) / 400) = (y + 399) / 400 := wrap64_id (by omega) (by omega)
  have s1 : IntKind.i64.wrap (365 * y + (y + 3) / 4) = 365 * y + (y + 3) / 4 := wrap64_id (by omega) (by omega)
  have s2 : IntKind.i64.wrap (365 * y + (y + 3) / 4 - (y + 99) / 100) = 365 * y + (y + 3) / 4 - (y + 99) / 100 := wrap64_id (by omega) (by omega)
  have s3 : IntKind.i64.wrap (yearsR y) = yearsR y := wrap64_id (by unfold yearsR; omega) (by unfold yearsR; omega)
  refine Run.fn [.tmp 2] [3] Tryz.func187 rfl (by simp [Tryz.ntmps187]) rfl rfl (by kernel_rfl) ?_
  simp only [yearsR] at s3 ⊢
  simp [e1, e2, e3, e4, d1, d2, d3, q1, q2, q3, s1, s2, s3]
def leapR (y : Int) : Bool := decide (0 ≤ y) && decide (y ≤ 9999) && decide (y % 4 = 0) && (decide (y % 100 ≠ 0) || decide (y % 400 = 0))
theorem f234 (X : CallRel) (y : Int) (h0 : 0 ≤ y) : Run cfg X 234 [.int .i64 y] m0 (.bool (leapR y)) m0 := by
  have d1 : y.tmod 4 = y % 4 := Int.tmod_eq_emod_of_nonneg h0
  have d2 : y.tmod 100 = y % 100 := Int.tmod_eq_emod_of_nonneg h0
  have d3 : y.tmod 400 = y % 400 := Int.tmod_eq_emod_of_nonneg h0
  refine Run.fn [.tmp 2] [4] Tryz.func234 rfl (by simp [Tryz.ntmps234]) rfl rfl (by kernel_rfl) ?_
  simp
  repeat' (first | (refine guardK_true ?_ ?_ <;> intro hg <;> ((have hg0 := hg); (try simp only [decide_eq_true_eq, decide_eq_false_iff_not, Bool.not_eq_true', Bool.not_eq_false', beq_iff_eq, beq_eq_false_iff_ne, bne_iff_ne, ne_eq, bne_eq_false_iff_eq, List.isEmpty_iff, List.isEmpty_eq_false_iff] at hg) <;> (try simp [hg0, hg]) <;> clear hg0) <;> (try (revert hg; intro _))) | (refine guardK_false ?_ ?_ <;> intro hg <;> ((have hg0 := hg); (try simp only [decide_eq_true_eq, decide_eq_false_iff_not, Bool.not_eq_true', Bool.not_eq_false', beq_iff_eq, beq_eq_false_iff_ne, bne_iff_ne, ne_eq, bne_eq_false_iff_eq, List.isEmpty_iff, List.isEmpty_eq_false_iff] at hg) <;> (try simp [hg0, hg]) <;> clear hg0) <;> (try (revert hg; intro _))) | (refine boolK_by ?_ ?_ <;> intro hg <;> ((have hg0 := hg); (try simp only [decide_eq_true_eq, decide_eq_false_iff_not, Bool.not_eq_true', Bool.not_eq_false', beq_iff_eq, beq_eq_false_iff_ne, bne_iff_ne, ne_eq, bne_eq_false_iff_eq, List.isEmpty_iff, List.isEmpty_eq_false_iff] at hg) <;> (try simp [hg0, hg]) <;> clear hg0) <;> (try (revert hg; intro _))))
  all_goals (try rw [d1] at *; try rw [d2] at *; try rw [d3] at *)
  all_goals simp_all [leapR]
  · rw [Bool.eq_iff_iff]
    simp
  · intros
    omega
def mon12 : List Int := [31, 28, 31, 30, 31, 30, 31, 31, 30, 31, 30, 31]
def monthR (y m : Int) : Int := (mon12[(m - 1).toNat]?).getD 0 + (if m = 2 ∧ leapR y = true then 1 else 0)
theorem monthR_range (y : Int) {m : Int} (h1 : 1 ≤ m) (h2 : m ≤ 12) : 28 ≤ monthR y m ∧ monthR y m ≤ 31 := by
  have : ∀ k : Fin 12, 28 ≤ (mon12[k.val]?).getD 0 ∧ (mon12[k.val]?).getD 0 ≤ (if k.val = 1 then 30 else 31) := by decide
  obtain ⟨k, rfl⟩ : ∃ k : Nat, m = k + 1 := ⟨(m - 1).toNat, by omega⟩
  have h := this ⟨k, by omega⟩
  simp only [monthR, show ((k : Int) + 1 - 1).toNat = k by omega] at h ⊢
  split
  · rw [if_pos (by omega)] at h
    omega
  · split at h <;> omega
set_option maxHeartbeats 4000000 in
theorem f188 (X : CallRel) (y m : Int) (h0 : 0 ≤ y) (h1 : 1 ≤ m) (h2 : m ≤ 12) : Run cfg X 188 [.int .i64 y, .int .i64 m] m0 (.int .i64 (monthR y m)) m0 := by
  have hl := f234 X y h0
  refine Run.fn [.tmp 4] [3] Tryz.func188 rfl (by simp [Tryz.ntmps188]) rfl rfl (by kernel_rfl) ?_
  obtain ⟨k, rfl⟩ : ∃ k : Nat, m = k + 1 := ⟨(m - 1).toNat, by omega⟩
  have hk : k < 12 := by omega
  have e1 : IntKind.i64.wrap (k : Int) = k := wrap64_id (by omega) (by omega)
  simp [e1]
  refine ⟨⟨by omega, by omega⟩, ?_⟩
  have hm : [V.int IntKind.i64 31, V.int IntKind.i64 28, V.int IntKind.i64 31, V.int IntKind.i64 30, V.int IntKind.i64 31, V.int IntKind.i64 30, V.int IntKind.i64 31, V.int IntKind.i64 31, V.int IntKind.i64 30, V.int IntKind.i64 31, V.int IntKind.i64 30, V.int IntKind.i64 31][k]? = some (V.int .i64 ((mon12[k]?).getD 0)) := by
    have : ∀ k : Fin 12, [V.int IntKind.i64 31, V.int IntKind.i64 28, V.int IntKind.i64 31, V.int IntKind.i64 30, V.int IntKind.i64 31, V.int IntKind.i64 30, V.int IntKind.i64 31, V.int IntKind.i64 31, V.int IntKind.i64 30, V.int IntKind.i64 31, V.int IntKind.i64 30, V.int IntKind.i64 31][k.val]? = some (V.int .i64 ((mon12[k.val]?).getD 0)) := by
      intro k
      match k with
      | 0 | 1 | 2 | 3 | 4 | 5 | 6 | 7 | 8 | 9 | 10 | 11 => rfl
    exact this ⟨k, hk⟩
  rw [hm]
  dsimp only [Option.getD_some]
  have hr := monthR_range y h1 h2
  have hv : IntKind.i64.wrap ((mon12[k]?).getD 0 + 1) = (mon12[k]?).getD 0 + 1 := by
    simp only [monthR, show ((k : Int) + 1 - 1).toNat = k by omega] at hr
    split at hr
    · exact wrap64_id (by omega) (by omega)
    · exact wrap64_id (by omega) (by omega)
  (first | (refine guardK_true ?_ ?_ <;> intro hg <;> ((have hg0 := hg); (try simp only [decide_eq_true_eq, decide_eq_false_iff_not, Bool.not_eq_true', Bool.not_eq_false', beq_iff_eq, beq_eq_false_iff_ne, bne_iff_ne, ne_eq, bne_eq_false_iff_eq, List.isEmpty_iff, List.isEmpty_eq_false_iff] at hg) <;> (try simp [hg0, hg]) <;> clear hg0) <;> (try (revert hg; intro _))) | (refine guardK_false ?_ ?_ <;> intro hg <;> ((have hg0 := hg); (try simp only [decide_eq_true_eq, decide_eq_false_iff_not, Bool.not_eq_true', Bool.not_eq_false', beq_iff_eq, beq_eq_false_iff_ne, bne_iff_ne, ne_eq, bne_eq_false_iff_eq, List.isEmpty_iff, List.isEmpty_eq_false_iff] at hg) <;> (try simp [hg0, hg]) <;> clear hg0) <;> (try (revert hg; intro _))) | (refine boolK_by ?_ ?_ <;> intro hg <;> ((have hg0 := hg); (try simp only [decide_eq_true_eq, decide_eq_false_iff_not, Bool.not_eq_true', Bool.not_eq_false', beq_iff_eq, beq_eq_false_iff_ne, bne_iff_ne, ne_eq, bne_eq_false_iff_eq, List.isEmpty_iff, List.isEmpty_eq_false_iff] at hg) <;> (try simp [hg0, hg]) <;> clear hg0) <;> (try (revert hg; intro _))))
  · have hm2 : (k : Int) + 1 = 2 := by assumption
    obtain rfl : k = 1 := by omega
    simp
    refine runK_of hl ?_
    simp
    (first | (refine guardK_true ?_ ?_ <;> intro hg <;> ((have hg0 := hg); (try simp only [decide_eq_true_eq, decide_eq_false_iff_not, Bool.not_eq_true', Bool.not_eq_false', beq_iff_eq, beq_eq_false_iff_ne, bne_iff_ne, ne_eq, bne_eq_false_iff_eq, List.isEmpty_iff, List.isEmpty_eq_false_iff] at hg) <;> (try simp [hg0, hg]) <;> clear hg0) <;> (try (revert hg; intro _))) | (refine guardK_false ?_ ?_ <;> intro hg <;> ((have hg0 := hg); (try simp only [decide_eq_true_eq, decide_eq_false_iff_not, Bool.not_eq_true', Bool.not_eq_false', beq_iff_eq, beq_eq_false_iff_ne, bne_iff_ne, ne_eq, bne_eq_false_iff_eq, List.isEmpty_iff, List.isEmpty_eq_false_iff] at hg) <;> (try simp [hg0, hg]) <;> clear hg0) <;> (try (revert hg; intro _))) | (refine boolK_by ?_ ?_ <;> intro hg <;> ((have hg0 := hg); (try simp only [decide_eq_true_eq, decide_eq_false_iff_not, Bool.not_eq_true', Bool.not_eq_false', beq_iff_eq, beq_eq_false_iff_ne, bne_iff_ne, ne_eq, bne_eq_false_iff_eq, List.isEmpty_iff, List.isEmpty_eq_false_iff] at hg) <;> (try simp [hg0, hg]) <;> clear hg0) <;> (try (revert hg; intro _))))
    · simp [monthR, *]
    · simp [monthR, *]
  · simp [monthR, show ((k : Int) + 1 - 1).toNat = k by omega, *]
end Go.Vm

namespace Go.Vm
open Go Go.Proofs
def padR (n : Int) (d : Nat) : S := List.replicate (d - (Lib.itoa n).length) 48 ++ Lib.itoa n
/-- What is asked of the library for numbers' texts. -/
structure Nums (X : CallRel) : Prop where
  fmt : ∀ n : Int, -9223372036854775808 ≤ n → n ≤ 9223372036854775807 → Run cfg X 114 [.int .i64 n, .int .i64 10] m0 (.str (bs (Lib.itoa n))) m0
  rep : ∀ k : Nat, k ≤ 4 → Run cfg X 235 [.str (bs [48]), .int .i64 k] m0 (.str (bs (List.replicate k 48))) m0
theorem itoa_len {n : Int} (h0 : -9223372036854775808 ≤ n) (h1 : n ≤ 9223372036854775807) : (Lib.itoa n).length ≤ 21 := Lib.itoa_length_le n h0 h1
theorem f189 (X : CallRel) (hX : Nums X) (n : Int) (d : Nat) (h0 : -9223372036854775808 ≤ n) (h1 : n ≤ 9223372036854775807) (hd : d ≤ 4) : Run cfg X 189 [.int .i64 n, .int .i64 d] m0 (.str (bs (padR n d))) m0 := by
  have hl := itoa_len h0 h1
  refine Run.fn [.tmp 4] [9] Tryz.func189 rfl (by simp [Tryz.ntmps189]) rfl rfl (by kernel_rfl) ?_
  simp
  refine runK_of (hX.fmt n h0 h1) ?_
  simp
  have e : (if 0 < IntKind.i64.wrap ((d : Int) - ((Lib.itoa n).length : Int)) then IntKind.i64.wrap ((d : Int) - ((Lib.itoa n).length : Int)) else 0) = ((d - (Lib.itoa n).length : Nat) : Int) := by
    rw [wrap64_id (by omega) (by omega)]
    split <;> omega
  rw [e]
  refine runK_of (hX.rep _ (by omega)) ?_
  simp [padR]
  omega
def yearGo : Nat → Int → Int → Int
  | 0, _, y => y
  | f + 1, d, y => if yearsR (y + 1) ≤ d then yearGo f d (y + 1) else y
def monthGo : Nat → Int → Int → Int → Int × Int
  | 0, _, left, m => (left, m)
  | f + 1, y, left, m => if monthR y m ≤ left then monthGo f y (left - monthR y m) (m + 1) else (left, m)
def dayOf (n : Int) : Int := n / 86400 + 719528
def yearOf (n : Int) : Int := yearGo (9999 - dayOf n / 366).toNat (dayOf n) (dayOf n / 366)
def monthOf (n : Int) : Int × Int := monthGo 11 (yearOf n) (dayOf n - yearsR (yearOf n)) 1
def dateS (n : Int) : S := if n < 0 ∨ 253402300799 < n then [] else
  padR (yearOf n) 4 ++ [45] ++ padR (monthOf n).2 2 ++ [45] ++ padR ((monthOf n).1 + 1) 2 ++ [84] ++ padR (n % 86400 / 3600) 2 ++ [58] ++ padR (n % 3600 / 60) 2 ++ [58] ++ padR (n % 60) 2 ++ [90]
def cumR (y : Int) : Nat → Int
  | 0 => 0
  | m + 1 => cumR y m + monthR y ((m : Int) + 1)
theorem cum12 (y : Int) : cumR y 12 = 365 + (if leapR y = true then 1 else 0) := by
  simp [cumR, monthR, mon12]
  split <;> rfl
theorem years_next {y : Int} (h0 : 0 ≤ y) (h1 : y ≤ 9999) : yearsR (y + 1) = yearsR y + (365 + (if leapR y = true then 1 else 0)) := by
  have hl : leapR y = true ↔ (y % 4 = 0 ∧ (y % 100 ≠ 0 ∨ y % 400 = 0)) := by simp [leapR, h0, h1]
  simp only [yearsR]
  split
  · rename_i h
    have := hl.1 h
    omega
  · rename_i h
    have := mt hl.2 h
    omega
/-- The year, the month, the day. -/
theorem yearGo_ok : ∀ (f : Nat) (d y : Int), 0 ≤ y → y + f = 9999 → d ≤ 3652424 → yearsR y ≤ d → 0 ≤ yearGo f d y ∧ yearGo f d y ≤ 9999 ∧ yearsR (yearGo f d y) ≤ d ∧ d < yearsR (yearGo f d y + 1) := by
  intro f
  induction f with
  | zero =>
    intro d y h0 h1 h2 h3
    simp only [yearGo]
    obtain rfl : y = 9999 := by omega
    refine ⟨by omega, by omega, h3, ?_⟩
    simp only [yearsR]
    omega
  | succ f ih =>
    intro d y h0 h1 h2 h3
    simp only [yearGo]
    split
    · exact ih d (y + 1) (by omega) (by omega) h2 (by assumption)
    · exact ⟨h0, by omega, h3, by omega⟩
theorem monthGo_ok (y days : Int) (h0 : 0 ≤ y) (h1 : y ≤ 9999) (hd : days < yearsR (y + 1)) : ∀ (f : Nat) (left : Int) (m : Nat), 1 ≤ m → m + f = 12 → 0 ≤ left → left + cumR y (m - 1) + yearsR y = days →
    ∃ (l : Int) (k : Nat), monthGo f y left m = (l, (k : Int)) ∧ 1 ≤ k ∧ k ≤ 12 ∧ 0 ≤ l ∧ l < monthR y k ∧ l + cumR y (k - 1) + yearsR y = days := by
  have hy := years_next h0 h1
  have hc := cum12 y
  intro f
  induction f with
  | zero =>
    intro left m hm hf hl hs
    obtain rfl : m = 12 := by omega
    refine ⟨left, 12, rfl, by omega, by omega, hl, ?_, hs⟩
    have : cumR y 12 = cumR y 11 + monthR y 12 := rfl
    simp only [Nat.add_one_sub_one, show 12 - 1 = 11 from rfl] at hs
    show left < monthR y 12
    omega
  | succ f ih =>
    intro left m hm hf hl hs
    simp only [monthGo]
    split
    · rename_i hle
      have e : cumR y (m + 1 - 1) = cumR y (m - 1) + monthR y m := by
        obtain ⟨k, rfl⟩ : ∃ k, m = k + 1 := ⟨m - 1, by omega⟩
        simp [cumR]
      have := ih (left - monthR y m) (m + 1) (by omega) (by omega) (by omega) (by rw [e]; omega)
      simpa using this
    · exact ⟨left, m, rfl, hm, by omega, hl, by omega, hs⟩
theorem date_ok {n : Int} (h0 : 0 ≤ n) (h1 : n ≤ 253402300799) : 0 ≤ yearOf n ∧ yearOf n ≤ 9999 ∧ ∃ (l : Int) (k : Nat), monthOf n = (l, (k : Int)) ∧ 1 ≤ k ∧ k ≤ 12 ∧ 0 ≤ l ∧ l < monthR (yearOf n) k ∧ l + cumR (yearOf n) (k - 1) + yearsR (yearOf n) = dayOf n := by
  have hd : 719528 ≤ dayOf n ∧ dayOf n ≤ 3652424 := by unfold dayOf; omega
  obtain ⟨y0, y1, y2, y3⟩ := yearGo_ok (9999 - dayOf n / 366).toNat (dayOf n) (dayOf n / 366) (by omega) (by omega) hd.2 (by unfold yearsR; omega)
  refine ⟨y0, y1, ?_⟩
  have := monthGo_ok (yearOf n) (dayOf n) y0 y1 y3 11 (dayOf n - yearsR (yearOf n)) 1 (by omega) rfl (by have : yearsR (yearOf n) ≤ dayOf n := y2; omega) (by simp [cumR])
  simpa [monthOf] using this
set_option maxHeartbeats 8000000 in
theorem f116 (X : CallRel) (hX : Nums X) (n : Int) (hn0 : -9223372036854775808 ≤ n) (hn1 : n ≤ 9223372036854775807) : Run cfg X 116 [.int .i64 n] m0 (.str (bs (dateS n))) m0 := by
  refine Run.fn [.tmp 2] [9] Tryz.func116 rfl (by simp [Tryz.ntmps116]) rfl rfl (by kernel_rfl) ?_
  simp
  (first | (refine guardK_true ?_ ?_ <;> intro hg <;> ((have hg0 := hg); (try simp only [decide_eq_true_eq, decide_eq_false_iff_not, Bool.not_eq_true', Bool.not_eq_false', beq_iff_eq, beq_eq_false_iff_ne, bne_iff_ne, ne_eq, bne_eq_false_iff_eq, List.isEmpty_iff, List.isEmpty_eq_false_iff] at hg) <;> (try simp [hg0, hg]) <;> clear hg0) <;> (try (revert hg; intro _))) | (refine guardK_false ?_ ?_ <;> intro hg <;> ((have hg0 := hg); (try simp only [decide_eq_true_eq, decide_eq_false_iff_not, Bool.not_eq_true', Bool.not_eq_false', beq_iff_eq, beq_eq_false_iff_ne, bne_iff_ne, ne_eq, bne_eq_false_iff_eq, List.isEmpty_iff, List.isEmpty_eq_false_iff] at hg) <;> (try simp [hg0, hg]) <;> clear hg0) <;> (try (revert hg; intro _))) | (refine boolK_by ?_ ?_ <;> intro hg <;> ((have hg0 := hg); (try simp only [decide_eq_true_eq, decide_eq_false_iff_not, Bool.not_eq_true', Bool.not_eq_false', beq_iff_eq, beq_eq_false_iff_ne, bne_iff_ne, ne_eq, bne_eq_false_iff_eq, List.isEmpty_iff, List.isEmpty_eq_false_iff] at hg) <;> (try simp [hg0, hg]) <;> clear hg0) <;> (try (revert hg; intro _))))
  · simp [dateS, *]
  (first | (refine guardK_true ?_ ?_ <;> intro hg <;> ((have hg0 := hg); (try simp only [decide_eq_true_eq, decide_eq_false_iff_not, Bool.not_eq_true', Bool.not_eq_false', beq_iff_eq, beq_eq_false_iff_ne, bne_iff_ne, ne_eq, bne_eq_false_iff_eq, List.isEmpty_iff, List.isEmpty_eq_false_iff] at hg) <;> (try simp [hg0, hg]) <;> clear hg0) <;> (try (revert hg; intro _))) | (refine guardK_false ?_ ?_ <;> intro hg <;> ((have hg0 := hg); (try simp only [decide_eq_true_eq, decide_eq_false_iff_not, Bool.not_eq_true', Bool.not_eq_false', beq_iff_eq, beq_eq_false_iff_ne, bne_iff_ne, ne_eq, bne_eq_false_iff_eq, List.isEmpty_iff, List.isEmpty_eq_false_iff] at hg) <;> (try simp [hg0, hg]) <;> clear hg0) <;> (try (revert hg; intro _))) | (refine boolK_by ?_ ?_ <;> intro hg <;> ((have hg0 := hg); (try simp only [decide_eq_true_eq, decide_eq_false_iff_not, Bool.not_eq_true', Bool.not_eq_false', beq_iff_eq, beq_eq_false_iff_ne, bne_iff_ne, ne_eq, bne_eq_false_iff_eq, List.isEmpty_iff, List.isEmpty_eq_false_iff] at hg) <;> (try simp [hg0, hg]) <;> clear hg0) <;> (try (revert hg; intro _))))
  · simp [dateS, *]
  have h0 : 0 ≤ n := by omega
  have h1 : n ≤ 253402300799 := by omega
  have hd : 719528 ≤ dayOf n ∧ dayOf n ≤ 3652424 := by unfold dayOf; omega
  have e1 : n.tdiv 86400 = n / 86400 := Int.tdiv_eq_ediv_of_nonneg h0
  have e2 : IntKind.i64.wrap (n / 86400) = n / 86400 := wrap64_id (by omega) (by omega)
  have e3 : IntKind.i64.wrap (n / 86400 + 719528) = dayOf n := wrap64_id (by omega) (by omega)
  have e4 : (dayOf n).tdiv 366 = dayOf n / 366 := Int.tdiv_eq_ediv_of_nonneg (by omega)
  have e5 : IntKind.i64.wrap (dayOf n / 366) = dayOf n / 366 := wrap64_id (by omega) (by omega)
  obtain ⟨y0, y9, l, k, hml, k1, k12, l0, l1, hsum⟩ := date_ok h0 h1
  refine wp_loop (fun j s => ∃ y : Int, j = (9999 - y).toNat ∧ 0 ≤ y ∧ y ≤ 9999 ∧ yearsR y ≤ dayOf n ∧ yearOf n = yearGo (9999 - y).toNat (dayOf n) y ∧
      s = ⟨[(4, .int .i64 y), (3, .int .i64 (dayOf n)), (0, .int .i64 n)], m0⟩) { env := [4, 3, 0] } (9999 - dayOf n / 366).toNat
    ⟨dayOf n / 366, rfl, by omega, by omega, by unfold yearsR; omega, rfl, by simp [e1, e2, e3, e4, e5]⟩ ?_
  rintro j s ⟨y, rfl, hy0, hy9, hyd, hyy, rfl⟩
  have w1 : IntKind.i64.wrap (y + 1) = y + 1 := wrap64_id (by omega) (by omega)
  simp [w1]
  refine runK_of (f187 X (y + 1) (by omega) (by omega)) ?_
  simp
  (first | (refine guardK_true ?_ ?_ <;> intro hg <;> ((have hg0 := hg); (try simp only [decide_eq_true_eq, decide_eq_false_iff_not, Bool.not_eq_true', Bool.not_eq_false', beq_iff_eq, beq_eq_false_iff_ne, bne_iff_ne, ne_eq, bne_eq_false_iff_eq, List.isEmpty_iff, List.isEmpty_eq_false_iff] at hg) <;> (try simp [hg0, hg]) <;> clear hg0) <;> (try (revert hg; intro _))) | (refine guardK_false ?_ ?_ <;> intro hg <;> ((have hg0 := hg); (try simp only [decide_eq_true_eq, decide_eq_false_iff_not, Bool.not_eq_true', Bool.not_eq_false', beq_iff_eq, beq_eq_false_iff_ne, bne_iff_ne, ne_eq, bne_eq_false_iff_eq, List.isEmpty_iff, List.isEmpty_eq_false_iff] at hg) <;> (try simp [hg0, hg]) <;> clear hg0) <;> (try (revert hg; intro _))) | (refine boolK_by ?_ ?_ <;> intro hg <;> ((have hg0 := hg); (try simp only [decide_eq_true_eq, decide_eq_false_iff_not, Bool.not_eq_true', Bool.not_eq_false', beq_iff_eq, beq_eq_false_iff_ne, bne_iff_ne, ne_eq, bne_eq_false_iff_eq, List.isEmpty_iff, List.isEmpty_eq_false_iff] at hg) <;> (try simp [hg0, hg]) <;> clear hg0) <;> (try (revert hg; intro _))))
  · rename_i hle
    have hlt : y + 1 ≤ 9999 := by unfold yearsR at hle; omega
    obtain ⟨f, hf⟩ : ∃ f, (9999 - y).toNat = f + 1 := ⟨(9999 - y).toNat - 1, by omega⟩
    refine loopK_back { env := [4, 3, 0] } (9999 - (y + 1)).toNat (by omega) ⟨y + 1, rfl, by omega, hlt, hle, ?_, ?_⟩
    · rw [hyy, hf, yearGo, if_pos hle]
      congr 1
      omega
    · simp [w1]
  · rename_i hle
    have hyy : yearOf n = y := by
      rw [hyy]
      cases (9999 - y).toNat with
      | zero => rfl
      | succ f => rw [yearGo, if_neg (by assumption)]
    have hmo : monthOf n = monthGo 11 y (dayOf n - yearsR y) 1 := by rw [monthOf, hyy]
    have hyn := years_next hy0 hy9
    have hc12 := cum12 y
    have w2 : IntKind.i64.wrap (dayOf n - yearsR y) = dayOf n - yearsR y := wrap64_id (by unfold yearsR; omega) (by unfold yearsR; omega)
    refine runK_of (f187 X y (by omega) (by omega)) ?_
    simp
    refine wp_loop (fun j s => ∃ (left : Int) (m : Nat), j = 12 - m ∧ 1 ≤ m ∧ m ≤ 12 ∧ 0 ≤ left ∧ left ≤ dayOf n - yearsR y ∧ left + cumR y (m - 1) + yearsR y = dayOf n ∧ monthOf n = monthGo (12 - m) y left m ∧
        s = ⟨[(6, .int .i64 m), (5, .int .i64 left), (4, .int .i64 y), (0, .int .i64 n)], m0⟩) { env := [6, 5, 4, 0] } 11
      ⟨dayOf n - yearsR y, 1, rfl, by omega, by omega, by omega, by omega, by simp [cumR], hmo, by simp [w2]⟩ ?_
    rintro j s ⟨left, m, rfl, hm1, hm12, hl0, hl1, hls, hmm, rfl⟩
    have hr := monthR_range y (m := (m : Int)) (by omega) (by omega)
    have hmon := f188 X y m hy0 (by omega) (by omega)
    have w3 : IntKind.i64.wrap ((m : Int) + 1) = (m : Int) + 1 := wrap64_id (by omega) (by omega)
    have hyr : 0 ≤ yearsR y := by unfold yearsR; omega
    simp
    refine runK_of hmon ?_
    simp
    (first | (refine guardK_true ?_ ?_ <;> intro hg <;> ((have hg0 := hg); (try simp only [decide_eq_true_eq, decide_eq_false_iff_not, Bool.not_eq_true', Bool.not_eq_false', beq_iff_eq, beq_eq_false_iff_ne, bne_iff_ne, ne_eq, bne_eq_false_iff_eq, List.isEmpty_iff, List.isEmpty_eq_false_iff] at hg) <;> (try simp [hg0, hg]) <;> clear hg0) <;> (try (revert hg; intro _))) | (refine guardK_false ?_ ?_ <;> intro hg <;> ((have hg0 := hg); (try simp only [decide_eq_true_eq, decide_eq_false_iff_not, Bool.not_eq_true', Bool.not_eq_false', beq_iff_eq, beq_eq_false_iff_ne, bne_iff_ne, ne_eq, bne_eq_false_iff_eq, List.isEmpty_iff, List.isEmpty_eq_false_iff] at hg) <;> (try simp [hg0, hg]) <;> clear hg0) <;> (try (revert hg; intro _))) | (refine boolK_by ?_ ?_ <;> intro hg <;> ((have hg0 := hg); (try simp only [decide_eq_true_eq, decide_eq_false_iff_not, Bool.not_eq_true', Bool.not_eq_false', beq_iff_eq, beq_eq_false_iff_ne, bne_iff_ne, ne_eq, bne_eq_false_iff_eq, List.isEmpty_iff, List.isEmpty_eq_false_iff] at hg) <;> (try simp [hg0, hg]) <;> clear hg0) <;> (try (revert hg; intro _))))
    · rename_i hge
      have w4 : IntKind.i64.wrap (left - monthR y m) = left - monthR y m := wrap64_id (by omega) (by omega)
      have hcm : cumR y m = cumR y (m - 1) + monthR y m := by
        obtain ⟨q, rfl⟩ : ∃ q, m = q + 1 := ⟨m - 1, by omega⟩
        simp [cumR]
      have hlt : m < 12 := by
        rcases Nat.lt_or_ge m 12 with h | h
        · exact h
        · obtain rfl : m = 12 := by omega
          omega
      refine runK_of hmon ?_
      simp
      refine loopK_back { env := [6, 5, 4, 0] } (12 - (m + 1)) (by omega) ⟨left - monthR y m, m + 1, rfl, by omega, by omega, by omega, by omega, ?_, ?_, ?_⟩
      · rw [show m + 1 - 1 = m by omega, hcm]
        omega
      · rw [hmm, show 12 - m = (12 - (m + 1)) + 1 by omega, monthGo, if_pos hge]
        congr 1
      · simp [w3, w4]
    · rename_i hge
      have hmm : monthOf n = (left, (m : Int)) := by
        rw [hmm]
        cases 12 - m with
        | zero => rfl
        | succ f => rw [monthGo, if_neg (by omega)]
      have w5 : IntKind.i64.wrap (left + 1) = left + 1 := wrap64_id (by omega) (by omega)
      have m1 : n.tmod 86400 = n % 86400 := Int.tmod_eq_emod_of_nonneg h0
      have m2 : n.tmod 3600 = n % 3600 := Int.tmod_eq_emod_of_nonneg h0
      have m3 : n.tmod 60 = n % 60 := Int.tmod_eq_emod_of_nonneg h0
      have t1 : (n % 86400).tdiv 3600 = n % 86400 / 3600 := Int.tdiv_eq_ediv_of_nonneg (by omega)
      have t2 : (n % 3600).tdiv 60 = n % 3600 / 60 := Int.tdiv_eq_ediv_of_nonneg (by omega)
      have u1 : IntKind.i64.wrap (n % 86400 / 3600) = n % 86400 / 3600 := wrap64_id (by omega) (by omega)
      have u2 : IntKind.i64.wrap (n % 3600 / 60) = n % 3600 / 60 := wrap64_id (by omega) (by omega)
      have pl : ∀ (x : Int) (d : Nat), d ≤ 4 → -9223372036854775808 ≤ x → x ≤ 9223372036854775807 → (padR x d).length ≤ 30 := fun x d hd h0 h1 => by
        have := itoa_len h0 h1
        simp only [padR, List.length_append, List.length_replicate]
        omega
      have l1 := pl y 4 (by omega) (by omega) (by omega)
      have l2 := pl m 2 (by omega) (by omega) (by omega)
      have l3 := pl (left + 1) 2 (by omega) (by omega) (by omega)
      have l4 := pl (n % 86400 / 3600) 2 (by omega) (by omega) (by omega)
      have l5 := pl (n % 3600 / 60) 2 (by omega) (by omega) (by omega)
      have l6 := pl (n % 60) 2 (by omega) (by omega) (by omega)
      refine runK_of (by simpa using f189 X hX y 4 (by omega) (by omega) (by omega)) ?_
      simp
      refine ⟨by omega, ?_⟩
      refine runK_of (by simpa using f189 X hX m 2 (by omega) (by omega) (by omega)) ?_
      simp [w5]
      refine ⟨by omega, by omega, ?_⟩
      refine runK_of (by simpa using f189 X hX (left + 1) 2 (by omega) (by omega) (by omega)) ?_
      simp [m1, m2, m3, t1, t2, u1, u2]
      refine ⟨by omega, by omega, ?_⟩
      refine runK_of (by simpa using f189 X hX (n % 86400 / 3600) 2 (by omega) (by omega) (by omega)) ?_
      simp [m1, m2, m3, t1, t2, u1, u2]
      refine ⟨by omega, by omega, ?_⟩
      refine runK_of (by simpa using f189 X hX (n % 3600 / 60) 2 (by omega) (by omega) (by omega)) ?_
      simp [m1, m2, m3, t1, t2, u1, u2]
      refine ⟨by omega, by omega, ?_⟩
      refine runK_of (by simpa using f189 X hX (n % 60) 2 (by omega) (by omega) (by omega)) ?_
      simp
      refine ⟨by omega, by omega, ?_⟩
      rw [dateS, if_neg (by omega), hmm, hyy]
      simp
end Go.Vm

namespace Go.Vm
open Go Go.Proofs
/-- What is asked of the library for texts. -/
structure LibOk (X : CallRel) : Prop extends Nums X where
  join : ∀ (ss : List S) (sep : S), ss.length ≤ 1000000 → (joinS sep ss).length ≤ 100000000000 → Run cfg X 93 [.sl (ss.map fun s => [.str (bs s)]), .str (bs sep)] m0 (.str (bs (joinS sep ss))) m0
  split : Run cfg X 247 [.str (bs signTable), .str (bs [32])] m0 (.sl (signs.map fun s => [.str (bs s)])) m0
  quote : ∀ l : S, l.length ≤ 1000000 → Run cfg X 115 [.str (bs l)] m0 (.str (bs (quoteS l))) m0
def flatOk (t : Tm) : Prop := (1 ≤ t.kind ∧ t.kind ≤ 6) ∧ (-9223372036854775808 ≤ t.n ∧ t.n ≤ 9223372036854775807) ∧ t.s.length ≤ 256
def okT (t : Tm) : Prop := flatOk t ∨ (t.kind = 7 ∧ t.l.length ≤ 16 ∧ ∀ x ∈ t.l, flatOk x)
def boolS (b : Bool) : S := if b = true then [116, 114, 117, 101] else [102, 97, 108, 115, 101]
def wr1 (t : Tm) : S := if t.kind = 1 then 36 :: t.s else if t.kind = 2 then Lib.itoa t.n else if t.kind = 3 then quoteS t.s else if t.kind = 4 then dateS t.n else if t.kind = 5 then [104, 101, 120, 58] ++ hexS t.s else boolS (t.n == 1)
def wr (t : Tm) : S := if t.kind = 7 then 123 :: joinS [44, 32] (t.l.map wr1) ++ [125] else wr1 t
theorem padR_len {x : Int} {d : Nat} (hd : d ≤ 4) (h0 : -9223372036854775808 ≤ x) (h1 : x ≤ 9223372036854775807) : (padR x d).length ≤ 30 := by
  have := itoa_len h0 h1
  simp only [padR, List.length_append, List.length_replicate]
  omega
theorem dateS_len {n : Int} : (dateS n).length ≤ 200 := by
  unfold dateS
  split
  · simp
  · obtain ⟨y0, y9, l, k, hml, k1, k12, l0, l1, hsum⟩ := date_ok (n := n) (by omega) (by omega)
    have hr := monthR_range (yearOf n) (m := (k : Int)) (by omega) (by omega)
    have l1 := padR_len (x := yearOf n) (d := 4) (by omega) (by omega) (by omega)
    have l2 := padR_len (x := (k : Int)) (d := 2) (by omega) (by omega) (by omega)
    have l3 := padR_len (x := l + 1) (d := 2) (by omega) (by omega) (by omega)
    have l4 := padR_len (x := n % 86400 / 3600) (d := 2) (by omega) (by omega) (by omega)
    have l5 := padR_len (x := n % 3600 / 60) (d := 2) (by omega) (by omega) (by omega)
    have l6 := padR_len (x := n % 60) (d := 2) (by omega) (by omega) (by omega)
    rw [hml]
    simp only [List.length_append, List.length_cons, List.length_nil]
    omega
theorem boolS_len (b : Bool) : (boolS b).length ≤ 5 := by cases b <;> simp [boolS]
theorem wr1_len {t : Tm} (h : flatOk t) : (wr1 t).length ≤ 1100 := by
  obtain ⟨h1, ⟨h2, h3⟩, h4⟩ := h
  have a1 := itoa_len h2 h3
  have a2 := quoteIn_len t.s
  have a3 := dateS_len (n := t.n)
  have a4 := hexS_length t.s
  have a5 := boolS_len (t.n == 1)
  unfold wr1 quoteS
  repeat' split
  all_goals ((try simp only [List.length_append, List.length_cons, List.length_nil]) <;> omega)
theorem wr_len {t : Tm} (h : okT t) : (wr t).length ≤ 17640 := by
  unfold wr
  split
  · rename_i h7
    rcases h with h | ⟨h1, h2, h3⟩
    · exact absurd h.1.2 (by omega)
    · have := joinS_len [44, 32] 1100 (t.l.map wr1) (fun s hs => by
        obtain ⟨x, hx, rfl⟩ := List.mem_map.1 hs
        exact wr1_len (h3 x hx))
      simp only [List.length_append, List.length_cons, List.length_nil, List.length_map] at this ⊢
      omega
  · rcases h with h | ⟨h1, h2, h3⟩
    · have := wr1_len h
      omega
    · contradiction
theorem f60flat (X : CallRel) (hX : LibOk X) (t : Tm) (h : flatOk t) : Run cfg X 60 [.agg t.cells] m0 (.str (bs (wr1 t))) m0 := by
  obtain ⟨h1, ⟨h2, h3⟩, h4⟩ := h
  refine Run.fn [.tmp 2] [9] Tryz.func60 rfl (by simp [Tryz.ntmps60]) rfl rfl (by kernel_rfl) ?_
  simp [Tm.cells_eq]
  (first | (refine guardK_true ?_ ?_ <;> intro hg <;> ((have hg0 := hg); (try simp only [decide_eq_true_eq, decide_eq_false_iff_not, Bool.not_eq_true', Bool.not_eq_false', beq_iff_eq, beq_eq_false_iff_ne, bne_iff_ne, ne_eq, bne_eq_false_iff_eq, List.isEmpty_iff, List.isEmpty_eq_false_iff] at hg) <;> (try simp [hg0, hg]) <;> clear hg0) <;> (try (revert hg; intro _))) | (refine guardK_false ?_ ?_ <;> intro hg <;> ((have hg0 := hg); (try simp only [decide_eq_true_eq, decide_eq_false_iff_not, Bool.not_eq_true', Bool.not_eq_false', beq_iff_eq, beq_eq_false_iff_ne, bne_iff_ne, ne_eq, bne_eq_false_iff_eq, List.isEmpty_iff, List.isEmpty_eq_false_iff] at hg) <;> (try simp [hg0, hg]) <;> clear hg0) <;> (try (revert hg; intro _))) | (refine boolK_by ?_ ?_ <;> intro hg <;> ((have hg0 := hg); (try simp only [decide_eq_true_eq, decide_eq_false_iff_not, Bool.not_eq_true', Bool.not_eq_false', beq_iff_eq, beq_eq_false_iff_ne, bne_iff_ne, ne_eq, bne_eq_false_iff_eq, List.isEmpty_iff, List.isEmpty_eq_false_iff] at hg) <;> (try simp [hg0, hg]) <;> clear hg0) <;> (try (revert hg; intro _))))
  · refine ⟨by omega, ?_⟩
    simp [wr1, *]
  (first | (refine guardK_true ?_ ?_ <;> intro hg <;> ((have hg0 := hg); (try simp only [decide_eq_true_eq, decide_eq_false_iff_not, Bool.not_eq_true', Bool.not_eq_false', beq_iff_eq, beq_eq_false_iff_ne, bne_iff_ne, ne_eq, bne_eq_false_iff_eq, List.isEmpty_iff, List.isEmpty_eq_false_iff] at hg) <;> (try simp [hg0, hg]) <;> clear hg0) <;> (try (revert hg; intro _))) | (refine guardK_false ?_ ?_ <;> intro hg <;> ((have hg0 := hg); (try simp only [decide_eq_true_eq, decide_eq_false_iff_not, Bool.not_eq_true', Bool.not_eq_false', beq_iff_eq, beq_eq_false_iff_ne, bne_iff_ne, ne_eq, bne_eq_false_iff_eq, List.isEmpty_iff, List.isEmpty_eq_false_iff] at hg) <;> (try simp [hg0, hg]) <;> clear hg0) <;> (try (revert hg; intro _))) | (refine boolK_by ?_ ?_ <;> intro hg <;> ((have hg0 := hg); (try simp only [decide_eq_true_eq, decide_eq_false_iff_not, Bool.not_eq_true', Bool.not_eq_false', beq_iff_eq, beq_eq_false_iff_ne, bne_iff_ne, ne_eq, bne_eq_false_iff_eq, List.isEmpty_iff, List.isEmpty_eq_false_iff] at hg) <;> (try simp [hg0, hg]) <;> clear hg0) <;> (try (revert hg; intro _))))
  · refine runK_of (hX.fmt t.n h2 h3) ?_
    simp [wr1, *]
  (first | (refine guardK_true ?_ ?_ <;> intro hg <;> ((have hg0 := hg); (try simp only [decide_eq_true_eq, decide_eq_false_iff_not, Bool.not_eq_true', Bool.not_eq_false', beq_iff_eq, beq_eq_false_iff_ne, bne_iff_ne, ne_eq, bne_eq_false_iff_eq, List.isEmpty_iff, List.isEmpty_eq_false_iff] at hg) <;> (try simp [hg0, hg]) <;> clear hg0) <;> (try (revert hg; intro _))) | (refine guardK_false ?_ ?_ <;> intro hg <;> ((have hg0 := hg); (try simp only [decide_eq_true_eq, decide_eq_false_iff_not, Bool.not_eq_true', Bool.not_eq_false', beq_iff_eq, beq_eq_false_iff_ne, bne_iff_ne, ne_eq, bne_eq_false_iff_eq, List.isEmpty_iff, List.isEmpty_eq_false_iff] at hg) <;> (try simp [hg0, hg]) <;> clear hg0) <;> (try (revert hg; intro _))) | (refine boolK_by ?_ ?_ <;> intro hg <;> ((have hg0 := hg); (try simp only [decide_eq_true_eq, decide_eq_false_iff_not, Bool.not_eq_true', Bool.not_eq_false', beq_iff_eq, beq_eq_false_iff_ne, bne_iff_ne, ne_eq, bne_eq_false_iff_eq, List.isEmpty_iff, List.isEmpty_eq_false_iff] at hg) <;> (try simp [hg0, hg]) <;> clear hg0) <;> (try (revert hg; intro _))))
  · refine runK_of (hX.quote t.s (by omega)) ?_
    simp [wr1, *]
  (first | (refine guardK_true ?_ ?_ <;> intro hg <;> ((have hg0 := hg); (try simp only [decide_eq_true_eq, decide_eq_false_iff_not, Bool.not_eq_true', Bool.not_eq_false', beq_iff_eq, beq_eq_false_iff_ne, bne_iff_ne, ne_eq, bne_eq_false_iff_eq, List.isEmpty_iff, List.isEmpty_eq_false_iff] at hg) <;> (try simp [hg0, hg]) <;> clear hg0) <;> (try (revert hg; intro _))) | (refine guardK_false ?_ ?_ <;> intro hg <;> ((have hg0 := hg); (try simp only [decide_eq_true_eq, decide_eq_false_iff_not, Bool.not_eq_true', Bool.not_eq_false', beq_iff_eq, beq_eq_false_iff_ne, bne_iff_ne, ne_eq, bne_eq_false_iff_eq, List.isEmpty_iff, List.isEmpty_eq_false_iff] at hg) <;> (try simp [hg0, hg]) <;> clear hg0) <;> (try (revert hg; intro _))) | (refine boolK_by ?_ ?_ <;> intro hg <;> ((have hg0 := hg); (try simp only [decide_eq_true_eq, decide_eq_false_iff_not, Bool.not_eq_true', Bool.not_eq_false', beq_iff_eq, beq_eq_false_iff_ne, bne_iff_ne, ne_eq, bne_eq_false_iff_eq, List.isEmpty_iff, List.isEmpty_eq_false_iff] at hg) <;> (try simp [hg0, hg]) <;> clear hg0) <;> (try (revert hg; intro _))))
  · refine runK_of (f116 X hX.toNums t.n h2 h3) ?_
    simp [wr1, *]
  (first | (refine guardK_true ?_ ?_ <;> intro hg <;> ((have hg0 := hg); (try simp only [decide_eq_true_eq, decide_eq_false_iff_not, Bool.not_eq_true', Bool.not_eq_false', beq_iff_eq, beq_eq_false_iff_ne, bne_iff_ne, ne_eq, bne_eq_false_iff_eq, List.isEmpty_iff, List.isEmpty_eq_false_iff] at hg) <;> (try simp [hg0, hg]) <;> clear hg0) <;> (try (revert hg; intro _))) | (refine guardK_false ?_ ?_ <;> intro hg <;> ((have hg0 := hg); (try simp only [decide_eq_true_eq, decide_eq_false_iff_not, Bool.not_eq_true', Bool.not_eq_false', beq_iff_eq, beq_eq_false_iff_ne, bne_iff_ne, ne_eq, bne_eq_false_iff_eq, List.isEmpty_iff, List.isEmpty_eq_false_iff] at hg) <;> (try simp [hg0, hg]) <;> clear hg0) <;> (try (revert hg; intro _))) | (refine boolK_by ?_ ?_ <;> intro hg <;> ((have hg0 := hg); (try simp only [decide_eq_true_eq, decide_eq_false_iff_not, Bool.not_eq_true', Bool.not_eq_false', beq_iff_eq, beq_eq_false_iff_ne, bne_iff_ne, ne_eq, bne_eq_false_iff_eq, List.isEmpty_iff, List.isEmpty_eq_false_iff] at hg) <;> (try simp [hg0, hg]) <;> clear hg0) <;> (try (revert hg; intro _))))
  · refine runK_of (f94 X t.s (by omega)) ?_
    have := hexS_length t.s
    simp [wr1, *]
    omega
  (first | (refine guardK_true ?_ ?_ <;> intro hg <;> ((have hg0 := hg); (try simp only [decide_eq_true_eq, decide_eq_false_iff_not, Bool.not_eq_true', Bool.not_eq_false', beq_iff_eq, beq_eq_false_iff_ne, bne_iff_ne, ne_eq, bne_eq_false_iff_eq, List.isEmpty_iff, List.isEmpty_eq_false_iff] at hg) <;> (try simp [hg0, hg]) <;> clear hg0) <;> (try (revert hg; intro _))) | (refine guardK_false ?_ ?_ <;> intro hg <;> ((have hg0 := hg); (try simp only [decide_eq_true_eq, decide_eq_false_iff_not, Bool.not_eq_true', Bool.not_eq_false', beq_iff_eq, beq_eq_false_iff_ne, bne_iff_ne, ne_eq, bne_eq_false_iff_eq, List.isEmpty_iff, List.isEmpty_eq_false_iff] at hg) <;> (try simp [hg0, hg]) <;> clear hg0) <;> (try (revert hg; intro _))) | (refine boolK_by ?_ ?_ <;> intro hg <;> ((have hg0 := hg); (try simp only [decide_eq_true_eq, decide_eq_false_iff_not, Bool.not_eq_true', Bool.not_eq_false', beq_iff_eq, beq_eq_false_iff_ne, bne_iff_ne, ne_eq, bne_eq_false_iff_eq, List.isEmpty_iff, List.isEmpty_eq_false_iff] at hg) <;> (try simp [hg0, hg]) <;> clear hg0) <;> (try (revert hg; intro _))))
  · refine runK_of (f117 X (t.n == 1)) ?_
    simp [wr1, boolS, *]
  · omega
theorem f60 (X : CallRel) (hX : LibOk X) (t : Tm) (h : okT t) : Run cfg X 60 [.agg t.cells] m0 (.str (bs (wr t))) m0 := by
  rcases h with h | ⟨h7, hl, hx⟩
  · have := f60flat X hX t h
    have e : wr t = wr1 t := if_neg (by have := h.1.2; omega)
    rw [e]
    exact this
  · have hj := joinS_len [44, 32] 1100 (t.l.map wr1) (fun s hs => by
        obtain ⟨x, hx', rfl⟩ := List.mem_map.1 hs
        exact wr1_len (hx x hx'))
    simp only [List.length_map, List.length_cons, List.length_nil] at hj
    have hrun := f97 X 60 wr1 t.l [44, 32] (by omega) (by decide) (by decide) (fun x hx' => f60flat X hX x (hx x hx')) (hX.join _ _ (by simp; omega) (by omega))
    refine Run.fn [.tmp 2] [9] Tryz.func60 rfl (by simp [Tryz.ntmps60]) rfl rfl (by kernel_rfl) ?_
    simp [Tm.cells_eq, h7]
    refine runK_of hrun ?_
    simp [wr, *]
    omega
def leafR (t : Tm) : Side := ⟨if t.kind = 2 ∧ t.n < 0 then 40 :: wr t ++ [41] else wr t, false, decide (t.kind = 2 ∧ 0 ≤ t.n)⟩
theorem leaf_len {t : Tm} (h : okT t) : (leafR t).s.length ≤ 18000 := by
  have := wr_len h
  simp only [leafR]
  split <;> simp <;> omega
theorem f152 (X : CallRel) (hX : LibOk X) (t : Tm) (h : okT t) : Run cfg X 152 [.agg t.cells] m0 (.agg (leafR t).cells) m0 := by
  have hl := wr_len h
  have hw := f60 X hX t h
  simp only [Tm.cells_eq] at hw
  refine Run.fn [.cell 2 127] [127] Tryz.func152 rfl (by simp [Tryz.ntmps152]) rfl rfl (by kernel_rfl) ?_
  simp [Tm.cells_eq, Side.cells]
  refine runK_of hw ?_
  simp
  repeat' (first | (refine guardK_true ?_ ?_ <;> intro hg <;> ((have hg0 := hg); (try simp only [decide_eq_true_eq, decide_eq_false_iff_not, Bool.not_eq_true', Bool.not_eq_false', beq_iff_eq, beq_eq_false_iff_ne, bne_iff_ne, ne_eq, bne_eq_false_iff_eq, List.isEmpty_iff, List.isEmpty_eq_false_iff] at hg) <;> (try simp [hg0, hg]) <;> clear hg0) <;> (try (revert hg; intro _))) | (refine guardK_false ?_ ?_ <;> intro hg <;> ((have hg0 := hg); (try simp only [decide_eq_true_eq, decide_eq_false_iff_not, Bool.not_eq_true', Bool.not_eq_false', beq_iff_eq, beq_eq_false_iff_ne, bne_iff_ne, ne_eq, bne_eq_false_iff_eq, List.isEmpty_iff, List.isEmpty_eq_false_iff] at hg) <;> (try simp [hg0, hg]) <;> clear hg0) <;> (try (revert hg; intro _))) | (refine boolK_by ?_ ?_ <;> intro hg <;> ((have hg0 := hg); (try simp only [decide_eq_true_eq, decide_eq_false_iff_not, Bool.not_eq_true', Bool.not_eq_false', beq_iff_eq, beq_eq_false_iff_ne, bne_iff_ne, ne_eq, bne_eq_false_iff_eq, List.isEmpty_iff, List.isEmpty_eq_false_iff] at hg) <;> (try simp [hg0, hg]) <;> clear hg0) <;> (try (revert hg; intro _))))
  · refine ⟨by omega, by omega, ?_⟩
    simp only [leafR, *]
    simp
  · simp only [leafR, *]
    simp
  · simp only [leafR, *]
    simp
/-- What print makes of operations. -/
def exprS (l : List OpT) : S := match opsGo leafR l [] with
  | some [y] => y.s
  | _ => []
def okOps (l : List OpT) : Prop := (∀ o ∈ l, o.kind = 1 → okT o.term) ∧ (∀ o ∈ l, o.kind = 3 → 1 ≤ o.code ∧ o.code ≤ 19) ∧ ∃ y, opsGo leafR l [] = some [y]
theorem f39 (X : CallRel) (hX : LibOk X) (l : List OpT) (hl : l.length ≤ 1000) (h : okOps l) : Run cfg X 39 [.agg [.sl (l.map OpT.cells)]] m0 (.str (bs (exprS l))) m0 := by
  obtain ⟨h1, h2, y, hy⟩ := h
  have hrun := f83 X leafR _ l y (Nat.lt_succ_self _) hl (fun o ho hk => ⟨leaf_len (h1 o ho hk), f152 X hX o.term (h1 o ho hk)⟩) (fun o ho hk => f208 X hX.split o.code (by have := h2 o ho hk; omega) (by have := h2 o ho hk; omega)) hy
  simp only [Side.cells] at hrun
  refine Run.fn [.tmp 2] [9] Tryz.func39 rfl (by simp [Tryz.ntmps39]) rfl rfl (by kernel_rfl) ?_
  simp
  refine runK_of hrun ?_
  simp [exprS, hy]
def printE (l : List OpT) : S := if mayE l = false then [] else exprS l
theorem f11 (X : CallRel) (hX : LibOk X) (l : List OpT) (hl : l.length ≤ 1000000) (hsm : ∀ o ∈ l, o.term.small) (h : mayE l = true → okOps l) : Run cfg X 11 [.agg [.sl (l.map OpT.cells)]] m0 (.str (bs (printE l))) m0 := by
  refine Run.fn [.tmp 2] [9] Tryz.func11 rfl (by simp [Tryz.ntmps11]) rfl rfl (by kernel_rfl) ?_
  simp
  refine runK_of (f38 X l hsm) ?_
  simp
  (first | (refine guardK_true ?_ ?_ <;> intro hg <;> ((have hg0 := hg); (try simp only [decide_eq_true_eq, decide_eq_false_iff_not, Bool.not_eq_true', Bool.not_eq_false', beq_iff_eq, beq_eq_false_iff_ne, bne_iff_ne, ne_eq, bne_eq_false_iff_eq, List.isEmpty_iff, List.isEmpty_eq_false_iff] at hg) <;> (try simp [hg0, hg]) <;> clear hg0) <;> (try (revert hg; intro _))) | (refine guardK_false ?_ ?_ <;> intro hg <;> ((have hg0 := hg); (try simp only [decide_eq_true_eq, decide_eq_false_iff_not, Bool.not_eq_true', Bool.not_eq_false', beq_iff_eq, beq_eq_false_iff_ne, bne_iff_ne, ne_eq, bne_eq_false_iff_eq, List.isEmpty_iff, List.isEmpty_eq_false_iff] at hg) <;> (try simp [hg0, hg]) <;> clear hg0) <;> (try (revert hg; intro _))) | (refine boolK_by ?_ ?_ <;> intro hg <;> ((have hg0 := hg); (try simp only [decide_eq_true_eq, decide_eq_false_iff_not, Bool.not_eq_true', Bool.not_eq_false', beq_iff_eq, beq_eq_false_iff_ne, bne_iff_ne, ne_eq, bne_eq_false_iff_eq, List.isEmpty_iff, List.isEmpty_eq_false_iff] at hg) <;> (try simp [hg0, hg]) <;> clear hg0) <;> (try (revert hg; intro _))))
  · simp [printE, *]
  · have hm : mayE l = true := by assumption
    have hl' : l.length ≤ 1000 := by
      unfold mayE at hm
      split at hm
      · omega
      · cases hm
    refine runK_of (f39 X hX l hl' (h hm)) ?_
    simp [printE, hm]
end Go.Vm

namespace Go.Vm
open Go Go.Proofs
def tz : Tm := .mk 0 0 [] []
def awakeOps : List OpT := [⟨1, .mk 1 0 [120] [], 0, 0⟩, ⟨1, .mk 2 1 [] [], 0, 0⟩, ⟨3, tz, 7, 0⟩, ⟨1, .mk 2 3 [] [], 0, 0⟩, ⟨3, tz, 1, 0⟩]
def awakeS : S := [40, 36, 120, 32, 43, 32, 49, 41, 32, 60, 32, 51]
theorem itoa1 : Lib.itoa 1 = [49] := by simp [Lib.itoa, Lib.decDigits]
theorem itoa3 : Lib.itoa 3 = [51] := by simp [Lib.itoa, Lib.decDigits]
theorem awake_ops : opsGo leafR awakeOps [] = some [⟨awakeS, true, false⟩] := by
  simp [awakeOps, opsGo, leafR, wr, wr1, Tm.kind, Tm.n, Tm.s, Tm.l, itoa1, itoa3, binaryR, signR, signs, Side.text, awakeS]
theorem awake_may : mayE awakeOps = true := by
  simp [awakeOps, mayE, wholeGo, aloneR, mayT, mayN, Tm.dep, depL, mayT1, needsR, lazyR, nameT, Tm.kind, Tm.n, Tm.s, Tm.l, zeroR, tz, goodFrom, nameBad, letterB, prefR]
theorem f10 (X : CallRel) (hX : LibOk X) : Run cfg X 10 [] m0 (.bool true) m0 := by
  have h := f11 X hX awakeOps (by simp [awakeOps]) (by simp [awakeOps, tz, Tm.small, smallL]) fun _ => ⟨by simp [awakeOps, okT, flatOk, Tm.kind, Tm.n, Tm.s, Tm.l], by simp [awakeOps], _, awake_ops⟩
  have e : printE awakeOps = awakeS := by simp [printE, awake_may, exprS, awake_ops]
  rw [e] at h
  simp [awakeOps, OpT.cells, Tm.kind, Tm.n, Tm.s, Tm.l, tz, awakeS] at h
  refine Run.fn [.tmp 0] [4] Tryz.func10 rfl (by simp [Tryz.ntmps10]) rfl rfl (by kernel_rfl) ?_
  simp [List.range_succ]
  refine runK_of h ?_
  simp
def onePlain (a b : List OpT) : Prop := mayExprR a = true → mayExprR b = true → (printE a == printE b) = sameExprR a b ∧ 0 < (printE a).length
set_option maxHeartbeats 8000000 in
theorem f3 (X : CallRel) (hX : LibOk X) (a b : List OpT) (ha : a.length ≤ 9223372036854775807) (hsa : ∀ o ∈ a, o.term.small) (hsb : ∀ o ∈ b, o.term.small) (hka : mayExprR a = true → mayE a = true → okOps a) (hkb : mayExprR b = true → mayE b = true → okOps b) (hp : onePlain a b) :
    Run cfg X 3 [.agg [.sl (a.map OpT.cells)], .agg [.sl (b.map OpT.cells)]] m0 (.bool true) m0 := by
  have hw := f10 X hX
  have h8a := f8 X a hsa
  have h8b := f8 X b hsb
  have h9a := f9 X a hsa
  have h9b := f9 X b hsb
  have h12 := f12 X a b hsa ha
  have len : ∀ l, mayExprR l = true → l.length ≤ 1000000 := fun l h => by
    unfold mayExprR at h
    split at h
    · split at h
      · omega
      · cases h
    · cases h
  refine Run.fn [.tmp 4] [4] Tryz.func3 rfl (by simp [Tryz.ntmps3]) rfl rfl (by kernel_rfl) ?_
  simp
  refine runK_of h8a ?_
  simp
  repeat' (first
    | (first | (refine guardK_true ?_ ?_ <;> intro hg <;> ((have hg0 := hg); (try simp only [decide_eq_true_eq, decide_eq_false_iff_not, Bool.not_eq_true', Bool.not_eq_false', beq_iff_eq, beq_eq_false_iff_ne, bne_iff_ne, ne_eq, bne_eq_false_iff_eq, List.isEmpty_iff, List.isEmpty_eq_false_iff] at hg) <;> (try simp [hg0, hg]) <;> clear hg0) <;> (try (revert hg; intro _))) | (refine guardK_false ?_ ?_ <;> intro hg <;> ((have hg0 := hg); (try simp only [decide_eq_true_eq, decide_eq_false_iff_not, Bool.not_eq_true', Bool.not_eq_false', beq_iff_eq, beq_eq_false_iff_ne, bne_iff_ne, ne_eq, bne_eq_false_iff_eq, List.isEmpty_iff, List.isEmpty_eq_false_iff] at hg) <;> (try simp [hg0, hg]) <;> clear hg0) <;> (try (revert hg; intro _))) | (refine boolK_by ?_ ?_ <;> intro hg <;> ((have hg0 := hg); (try simp only [decide_eq_true_eq, decide_eq_false_iff_not, Bool.not_eq_true', Bool.not_eq_false', beq_iff_eq, beq_eq_false_iff_ne, bne_iff_ne, ne_eq, bne_eq_false_iff_eq, List.isEmpty_iff, List.isEmpty_eq_false_iff] at hg) <;> (try simp [hg0, hg]) <;> clear hg0) <;> (try (revert hg; intro _))))
    | (refine runK_of h8b ?_; simp)
    | (refine runK_of h9a ?_; simp)
    | (refine runK_of h9b ?_; simp)
    | (refine runK_of hw ?_; simp; done))
  have hma : mayExprR a = true := by assumption
  have hmb : mayExprR b = true := by assumption
  have h11a := f11 X hX a (len a hma) hsa (hka hma)
  have h11b := f11 X hX b (len b hmb) hsb (hkb hmb)
  refine runK_of h11a ?_
  simp
  refine runK_of h11b ?_
  simp
  refine ⟨by kernel_rfl, ?_⟩
  repeat' (first
    | (first | (refine guardK_true ?_ ?_ <;> intro hg <;> ((have hg0 := hg); (try simp only [decide_eq_true_eq, decide_eq_false_iff_not, Bool.not_eq_true', Bool.not_eq_false', beq_iff_eq, beq_eq_false_iff_ne, bne_iff_ne, ne_eq, bne_eq_false_iff_eq, List.isEmpty_iff, List.isEmpty_eq_false_iff] at hg) <;> (try simp [hg0, hg]) <;> clear hg0) <;> (try (revert hg; intro _))) | (refine guardK_false ?_ ?_ <;> intro hg <;> ((have hg0 := hg); (try simp only [decide_eq_true_eq, decide_eq_false_iff_not, Bool.not_eq_true', Bool.not_eq_false', beq_iff_eq, beq_eq_false_iff_ne, bne_iff_ne, ne_eq, bne_eq_false_iff_eq, List.isEmpty_iff, List.isEmpty_eq_false_iff] at hg) <;> (try simp [hg0, hg]) <;> clear hg0) <;> (try (revert hg; intro _))) | (refine boolK_by ?_ ?_ <;> intro hg <;> ((have hg0 := hg); (try simp only [decide_eq_true_eq, decide_eq_false_iff_not, Bool.not_eq_true', Bool.not_eq_false', beq_iff_eq, beq_eq_false_iff_ne, bne_iff_ne, ne_eq, bne_eq_false_iff_eq, List.isEmpty_iff, List.isEmpty_eq_false_iff] at hg) <;> (try simp [hg0, hg]) <;> clear hg0) <;> (try (revert hg; intro _))))
    | (refine runK_of hw ?_; simp; done))
  refine runK_of h12 ?_
  simp
  obtain ⟨p1, p2⟩ := hp hma hmb
  have p1' : ((printE a == printE b) == sameExprR a b) = true := by rw [p1]; simp
  have p2' : (0 : Int) < ((printE a).length : Int) := by omega
  refine guardK_true (fun hg => ?_) (fun hg => by rw [p1'] at hg; cases hg)
  simp [p1']
  repeat' (first | (first | (refine guardK_true ?_ ?_ <;> intro hg <;> ((have hg0 := hg); (try simp only [decide_eq_true_eq, decide_eq_false_iff_not, Bool.not_eq_true', Bool.not_eq_false', beq_iff_eq, beq_eq_false_iff_ne, bne_iff_ne, ne_eq, bne_eq_false_iff_eq, List.isEmpty_iff, List.isEmpty_eq_false_iff] at hg) <;> (try simp [hg0, hg]) <;> clear hg0) <;> (try (revert hg; intro _))) | (refine guardK_false ?_ ?_ <;> intro hg <;> ((have hg0 := hg); (try simp only [decide_eq_true_eq, decide_eq_false_iff_not, Bool.not_eq_true', Bool.not_eq_false', beq_iff_eq, beq_eq_false_iff_ne, bne_iff_ne, ne_eq, bne_eq_false_iff_eq, List.isEmpty_iff, List.isEmpty_eq_false_iff] at hg) <;> (try simp [hg0, hg]) <;> clear hg0) <;> (try (revert hg; intro _))) | (refine boolK_by ?_ ?_ <;> intro hg <;> ((have hg0 := hg); (try simp only [decide_eq_true_eq, decide_eq_false_iff_not, Bool.not_eq_true', Bool.not_eq_false', beq_iff_eq, beq_eq_false_iff_ne, bne_iff_ne, ne_eq, bne_eq_false_iff_eq, List.isEmpty_iff, List.isEmpty_eq_false_iff] at hg) <;> (try simp [hg0, hg]) <;> clear hg0) <;> (try (revert hg; intro _)))) | (refine runK_of hw ?_; simp))
  all_goals first
    | (exfalso; omega)
    | (exfalso; simp_all; done)
end Go.Vm
