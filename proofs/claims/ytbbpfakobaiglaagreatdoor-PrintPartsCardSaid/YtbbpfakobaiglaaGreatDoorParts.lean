/- PrintParts returns true for every input, and its argument reads afterwards as it read before: the row and its tied card. Conditions: none beyond the row's own (the listed variables hold what the program's text lays). -/
import Derived.Test.YtbbpfakobaiglaaGreatDoorRead
set_option linter.unusedVariables false
set_option linter.unusedSimpArgs false
namespace Go.Vm
open Go Go.Proofs Go.Proofs.YtbbpfakobaiglaaGreatDoor
theorem and2 {a b : Bool} (ha : a = true) (hb : b = true) : (a && b) = true := by rw [ha, hb]; rfl
/-! The row's closed facts, one by one: together they ask more memory than a process has. -/
theorem parts_k10 : (Rows.printPartsRow.inPlace == Tryz.pinned.checked.prog.inPlace 4) = true := by kernel_rfl
theorem parts_k11 : (Rows.printPartsRow.unfollowed == Tryz.pinned.checked.prog.unfollowed 4) = true := by kernel_rfl
theorem parts_k12 : (Rows.printPartsRow.recurses == Tryz.pinned.checked.prog.recurses 4) = true := by kernel_rfl
theorem parts_k13 : (Rows.printPartsRow.named == Tryz.pinned.checked.prog.varsNamed 4) = true := by kernel_rfl
theorem parts_closed : joinedFacts Tryz.pinned.checked.prog 4 Tryz.f4 Rows.printPartsSpec Rows.printPartsRow = true := by
  unfold joinedFacts
  with_reducible repeat' (first | exact parts_k10 | exact parts_k11 | exact parts_k12 | exact parts_k13 | refine and2 ?_ ?_)
  all_goals kernel_rfl
end Go.Vm
namespace Go.Proofs.YtbbpfakobaiglaaGreatDoor
open Go Go.Vm
theorem printParts_holds : Rows.PrintPartsSaid :=
  OpenClaim.holds_of_wide 4 Tryz.f4 rfl rfl rfl rfl rfl rfl rfl ⟨rfl, rfl, rfl, rfl, rfl⟩ rfl rfl rfl rfl rfl (by kernel_rfl) Tryz.func4 parts_closed
    (of_decide_eq_true (by kernel_rfl)) (by unfold Func.isWrapper; first | (rw [if_pos (by decide +kernel)]; kernel_rfl) | (rw [if_neg (by decide +kernel)]; exact ⟨rfl, rfl⟩))
    (fun os started H enc _ => parts_lifted os started H enc)
theorem printParts_card_holds : Rows.PrintPartsCardSaid :=
  Claim7.holds_tied_plain_at .later [] [.data, .data, .data, .data, .pinned] true (true, "2f488128459de4c0f49fbc9cd6c80bc085ef87a62c945c05895b077fdecabd6e") true printParts_holds (fun _ h => by cases h) (by kernel_rfl) (fun _ h => by cases h) printParts_row_tie rfl ⟨rfl, rfl⟩ (by kernel_rfl) rfl
    (fun f fn hf hfn => by
      obtain rfl : f = 4 := Option.some.inj ((show Tryz.prog.funcNamed "viaticum/viaticumlaw17.PrintParts" = some 4 by kernel_rfl).symm.trans hf) |>.symm
      obtain rfl : fn = Tryz.f4 := (Option.some.inj (Tryz.func4.symm.trans hfn)).symm
      exact ⟨by kernel_rfl, fun j t ht => by
        rw [Tryz.params4] at ht
        have hm : t ∈ [35] := by simpa using Array.mem_of_getElem? ht
        have hall : ([35].all fun u => !Tryz.prog.wantsStandIn u) = true := by kernel_rfl
        exact (show Tryz.prog.wantsStandIn t = false by simpa using List.all_eq_true.1 hall t hm)⟩)
    (by kernel_rfl)
#print axioms printParts_card_holds
end Go.Proofs.YtbbpfakobaiglaaGreatDoor
