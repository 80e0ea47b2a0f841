/- What is read of an argument, as the abstract machine's data; the law's call answers true. Conditions: none beyond the row's own. -/
import Derived.Test.YtbbpfakobaiglaaGreatDoorLibr
import Derived.Test.YtbbpfakobaiglaaGreatDoorPlain
import Derived.ChangeArms
import Derived.ChangeShapes
import Derived.Test.YtbbpfakobaiglaaGreatDoorLibs
import Derived.Test.YtbbpfakobaiglaaGreatDoorRows
import Derived.ProofKit
import Derived.OpenShut
import Derived.LaidMore
import Derived.LaidSub
import Derived.Lay
import Derived.Carry
import Derived.HandedShaped
import Derived.MakeChecks
import Derived.Shelf.Vars
import Derived.Stop.Joined
import Derived.Test.YtbbpfakobaiglaaGreatDoorTie
import Derived.Test.YtbbpfakobaiglaaGreatDoorCards
import Derived.SevenTiedAt
import Derived.JoinedOf
set_option linter.unusedVariables false
set_option linter.unusedSimpArgs false
namespace Go.Vm
open Go Go.Proofs
/-- Cells that read as these values. -/
def RdC (w : World) (vs : List V) (cs : List Value) : Prop := vs.length = cs.length ∧ (∀ (i : Nat) (u : V) (v : Value), vs[i]? = some u → cs[i]? = some v → DR w (fun h => h < w.heap.size) u v) ∧ ∀ v ∈ cs, v.oneCell' = true
section
variable {H : Type} {enc : TypeId × Value → H} {P : Program} {w : World} {base : Nat} {spare : Nat → Bool} {held : Bool}
theorem rdc_one {u : V} {v : Value} (h : DR w (fun h => h < w.heap.size) u v) (h1 : v.oneCell' = true) : RdC w [u] [v] := by
  refine ⟨rfl, fun i a b ha hb => ?_, fun x hx => by rw [List.mem_singleton] at hx; subst hx; exact h1⟩
  match i, ha, hb with
  | 0, ha, hb =>
    simp only [List.getElem?_cons_zero, Option.some.injEq] at ha hb
    subst ha hb
    exact h
theorem rdc_append {vs us : List V} {cs ds : List Value} (h : RdC w vs cs) (k : RdC w us ds) : RdC w (vs ++ us) (cs ++ ds) := by
  refine ⟨by simp [h.1, k.1], fun i u v hu hv => ?_, fun v hv => ?_⟩
  · by_cases hi : i < vs.length
    · rw [List.getElem?_append_left hi] at hu
      rw [List.getElem?_append_left (by rw [← h.1]; exact hi)] at hv
      exact h.2.1 i u v hu hv
    · rw [List.getElem?_append_right (by omega)] at hu
      rw [List.getElem?_append_right (by rw [← h.1]; omega), ← h.1] at hv
      exact k.2.1 _ u v hu hv
  · rcases List.mem_append.1 hv with hv | hv
    · exact h.2.2 v hv
    · exact k.2.2 v hv
theorem rd_int {t : TypeId} {k : IntKind} {fuel : Nat} {cs : List Value} {x : DataW H × List MemPlace} (ht : P.underlying t = some (.int k)) (h : DataW.trod enc P w base spare held fuel t cs = some x) :
    ∃ n, RdC w [.int k n] cs ∧ k.min ≤ n ∧ n ≤ k.max := by
  obtain ⟨n, rfl, _, hw⟩ := DataW.trod_int ht h
  simp only [Lit.wf, Bool.and_eq_true, decide_eq_true_eq] at hw
  exact ⟨n, rdc_one (.int k n) rfl, hw.1, hw.2⟩
theorem rd_bool {t : TypeId} {fuel : Nat} {cs : List Value} {x : DataW H × List MemPlace} (ht : P.underlying t = some .bool) (h : DataW.trod enc P w base spare held fuel t cs = some x) :
    ∃ b, RdC w [.bool b] cs := by
  obtain ⟨b, rfl, _⟩ := DataW.trod_bool ht h
  exact ⟨b, rdc_one (.bool b) rfl⟩
theorem rd_string {t : TypeId} {fuel : Nat} {cs : List Value} {x : DataW H × List MemPlace} (ht : P.underlying t = some .string) (h : DataW.trod enc P w base spare held fuel t cs = some x) :
    ∃ s : S, RdC w [.str (bs s)] cs ∧ s.length ≤ maxLen := by
  obtain ⟨s, rfl, _, hs⟩ := DataW.trod_string ht h
  obtain ⟨l, rfl⟩ := bs_of s
  exact ⟨l, rdc_one (.str (bs l)) rfl, by simpa using hs⟩
theorem mapM_at' {α β : Type} {f : α → Option β} : ∀ {l : List α} {r : List β}, l.mapM f = some r → r.length = l.length ∧ ∀ (i : Nat) (a : α), l[i]? = some a → f a = r[i]?
  | [], r, h => by
    simp at h
    subst h
    exact ⟨rfl, fun i a ha => by simp at ha⟩
  | x :: l, r, h => by
    simp only [List.mapM_cons, Option.bind_eq_bind, Option.bind_eq_some_iff, Option.pure_def, Option.some.injEq] at h
    obtain ⟨b, hb, r', hr', rfl⟩ := h
    obtain ⟨h1, h2⟩ := mapM_at' hr'
    refine ⟨by simp [h1], fun i a ha => ?_⟩
    cases i with
    | zero => simp at ha; subst ha; simpa using hb
    | succ i => simpa using h2 i a (by simpa using ha)
theorem cells_at {a : Addr} {n : Nat} {cs : List Value} (h : w.cells? base a n = some cs) : cs.length = n ∧ ∀ j, j < n → w.cell? (a.add j) = cs[j]? := by
  unfold World.cells? at h
  split at h
  · obtain ⟨h1, h2⟩ := mapM_at' h
    exact ⟨by simpa using h1, fun j hj => h2 j j (by simp [hj])⟩
  · cases h
theorem cell_at {a : Addr} {v : Value} (h : w.cell? a = some v) : ∃ arr e fr, w.heap[a.block]? = some (.cells arr e fr) ∧ a.spot = none ∧ arr[a.off]? = some v := by
  unfold World.cell? at h
  split at h
  · rename_i c e fr hc
    split at h
    · cases h
    · rename_i hs
      exact ⟨c, e, fr, hc, by simpa using hs, h⟩
  · cases h
theorem build_list {α : Type} {R : Nat → α → Prop} : ∀ n : Nat, (∀ i, i < n → ∃ a, R i a) → ∃ l : List α, l.length = n ∧ ∀ i a, l[i]? = some a → R i a
  | 0, _ => ⟨[], rfl, fun i a h => by simp at h⟩
  | n + 1, h => by
    obtain ⟨l, h1, h2⟩ := build_list n fun i hi => h i (by omega)
    obtain ⟨a, ha⟩ := h n (by omega)
    refine ⟨l ++ [a], by simp [h1], fun i b hb => ?_⟩
    by_cases hi : i < l.length
    · rw [List.getElem?_append_left hi] at hb
      exact h2 i b hb
    · rw [List.getElem?_append_right (by omega)] at hb
      have : i - l.length = 0 := by
        by_cases h0 : i - l.length = 0
        · exact h0
        · rw [List.getElem?_eq_none (by simp; omega)] at hb; cases hb
      rw [this] at hb
      simp only [List.getElem?_cons_zero, Option.some.injEq] at hb
      subst hb
      have : i = n := by omega
      subst this
      exact ha
theorem rd_slice {α : Type} (cells : α → List V) (Q : α → Prop) {t e : TypeId} (sz : Nat) (ht : P.underlying t = some (.slice e)) (hsz : P.cellsOf e = sz) (hpos : 0 < sz) (hcl : ∀ a, (cells a).length = sz) {fuel : Nat}
    (he : ∀ m cs x, m < fuel → DataW.trod enc P w base spare held m e cs = some x → ∃ a, RdC w (cells a) cs ∧ Q a) {cs : List Value} {x : DataW H × List MemPlace} (h : DataW.trod enc P w base spare held fuel t cs = some x) :
    ∃ l : List α, RdC w [.sl (l.map cells)] cs ∧ l.length ≤ maxLen ∧ ∀ a ∈ l, Q a := by
  rcases DataW.trod_slice ht h with ⟨rfl, _⟩ | ⟨a, len, cap, elems, rest, n, rfl, rfl, _, _, hlc, hcap, hel, hE, _, _⟩
  · exact ⟨[], rdc_one (.sl0 none 0) rfl, by simp, by simp⟩
  · rw [hsz] at hE
    have hex : ∀ i, i < len → ∃ b : α, (∃ ci, w.cells? base (a.add (i * sz)) sz = some ci ∧ RdC w (cells b) ci) ∧ Q b := by
      intro i hi
      have h1 := hE i hi
      rw [List.getElem?_eq_getElem (by omega), Option.bind_eq_some_iff] at h1
      obtain ⟨ci, hc, ht⟩ := h1
      obtain ⟨b, hb, hq⟩ := he n ci _ (by omega) ht
      exact ⟨b, ⟨ci, hc, hb⟩, hq⟩
    obtain ⟨l, hl, hR⟩ := build_list len hex
    have hQ : ∀ b ∈ l, Q b := fun b hb => by
      obtain ⟨i, hi⟩ := List.getElem?_of_mem hb
      exact (hR i b hi).2
    refine ⟨l, ?_, by omega, hQ⟩
    refine rdc_one ?_ rfl
    by_cases h0 : len = 0
    · subst h0
      obtain rfl : l = [] := List.length_eq_zero_iff.1 hl
      exact .sl0 _ _
    · -- the array behind it
      have hspot : a.spot = none := by
        obtain ⟨b, ⟨ci, hc, _⟩, _⟩ := hex 0 (by omega)
        obtain ⟨c1, c2⟩ := cells_at hc
        have h1 := c2 0 hpos
        rw [Nat.zero_mul, List.getElem?_eq_getElem (by omega)] at h1
        obtain ⟨_, _, _, _, h2, _⟩ := cell_at h1
        simpa [Addr.add] using h2
      obtain ⟨ab, ao, asp⟩ := a
      simp only at hspot
      subst hspot
      have cell : ∀ i b j u, l[i]? = some b → (cells b)[j]? = some u → ∃ v, w.cell? ⟨ab, ao + (i * sz + j), none⟩ = some v ∧ DR w (fun h => h < w.heap.size) u v ∧ v.oneCell' = true := by
        intro i b j u hb hu
        obtain ⟨⟨ci, hc, hr⟩, _⟩ := hR i b hb
        obtain ⟨c1, c2⟩ := cells_at hc
        have hj : j < sz := by
          have := (List.getElem?_eq_some_iff.1 hu).1
          rw [hcl] at this
          exact this
        have h1 := c2 j hj
        have hjc : j < ci.length := by omega
        rw [List.getElem?_eq_getElem hjc] at h1
        have e1 : (Addr.add ⟨ab, ao, none⟩ (i * sz)).add j = ⟨ab, ao + (i * sz + j), none⟩ := by
          unfold Addr.add
          split <;> split <;> simp_all [Nat.add_assoc]
        rw [e1] at h1
        exact ⟨ci[j], h1, hr.2.1 j u _ hu (List.getElem?_eq_getElem hjc), hr.2.2 _ (List.getElem_mem hjc)⟩
      have hll : ∀ i, i < len → ∃ b, l[i]? = some b := fun i hi => ⟨l[i]'(by omega), List.getElem?_eq_getElem (by omega)⟩
      have hcc : ∀ (b : α) j, j < sz → ∃ u, (cells b)[j]? = some u := fun b j hj => ⟨(cells b)[j]'(by rw [hcl]; exact hj), List.getElem?_eq_getElem (by rw [hcl]; exact hj)⟩
      obtain ⟨b0, hb0⟩ := hll 0 (by omega)
      obtain ⟨u0, hu0⟩ := hcc b0 0 hpos
      obtain ⟨v0, hv0, _⟩ := cell 0 b0 0 u0 hb0 hu0
      obtain ⟨arr, ety, fr, hheap, _, _⟩ := cell_at hv0
      simp only at hheap
      have hat : ∀ i b j u, l[i]? = some b → (cells b)[j]? = some u → ao + i * sz + j < arr.size ∧ DR w (fun h => h < w.heap.size) u (arr.getD (ao + i * sz + j) undef) ∧ (arr.getD (ao + i * sz + j) undef).oneCell' = true := by
        intro i b j u hb hu
        obtain ⟨v, hv, hd, h1⟩ := cell i b j u hb hu
        obtain ⟨arr', e', fr', q1, _, q3⟩ := cell_at hv
        simp only at q1 q3
        rw [hheap] at q1
        cases q1
        rw [← Nat.add_assoc] at q3
        have hlt := (Array.getElem?_eq_some_iff.1 q3).1
        have hg : arr.getD (ao + i * sz + j) undef = v := by rw [Array.getD_eq_getD_getElem?, q3]; rfl
        rw [hg]
        exact ⟨hlt, hd, h1⟩
      have hlen : (l.map cells).length = len := by simp [hl]
      rw [← hlen]
      refine .sl (l.map cells) ab ao cap sz arr ety fr ((Array.getElem?_eq_some_iff.1 hheap).1) hheap (by omega) ?_ ?_ ?_ ?_
      · intro x hx
        obtain ⟨b, _, rfl⟩ := List.mem_map.1 hx
        exact hcl b
      · obtain ⟨b1, hb1⟩ := hll (len - 1) (by omega)
        obtain ⟨u1, hu1⟩ := hcc b1 (sz - 1) (by omega)
        have := (hat _ _ _ _ hb1 hu1).1
        rw [hlen]
        have e : len * sz = (len - 1) * sz + sz := by
          obtain ⟨m, rfl⟩ : ∃ m, len = m + 1 := ⟨len - 1, by omega⟩
          rw [Nat.add_sub_cancel, Nat.add_mul, Nat.one_mul]
        omega
      · intro i x j u hx hu
        rw [List.getElem?_map, Option.map_eq_some_iff] at hx
        obtain ⟨b, hb, rfl⟩ := hx
        exact (hat i b j u hb hu).2.1
      · intro i hi
        rw [hlen] at hi
        have hq : i / sz < len := Nat.div_lt_of_lt_mul (by rw [Nat.mul_comm]; exact hi)
        obtain ⟨b, hb⟩ := hll (i / sz) hq
        obtain ⟨u, hu⟩ := hcc b (i % sz) (Nat.mod_lt _ hpos)
        have := (hat _ _ _ _ hb hu).2.2
        have e : ao + i / sz * sz + i % sz = ao + i := by
          rw [Nat.add_assoc, Nat.mul_comm, Nat.div_add_mod]
        rw [e] at this
        exact this
end
end Go.Vm

namespace Go.Vm
open Go Go.Proofs
theorem maxLen_eq : maxLen = 9223372036854775807 := by kernel_rfl
theorem len1 {α : Type} {l : List α} (h : l.length = 1) : ∃ a, l = [a] := by
  match l, h with
  | [a], _ => exact ⟨a, rfl⟩
theorem len4 {α : Type} {l : List α} (h : l.length = 4) : ∃ a b c d, l = [a, b, c, d] := by
  match l, h with
  | [a, b, c, d], _ => exact ⟨a, b, c, d, rfl⟩
theorem len7 {α : Type} {l : List α} (h : l.length = 7) : ∃ a b c d e f g, l = [a, b, c, d, e, f, g] := by
  match l, h with
  | [a, b, c, d, e, f, g], _ => exact ⟨a, b, c, d, e, f, g, rfl⟩
section
variable {H : Type} {enc : TypeId × Value → H} {w : World} {base : Nat} {spare : Nat → Bool} {held : Bool}
theorem rd_tm : ∀ (fuel : Nat) (cs : List Value) (x : DataW H × List MemPlace), DataW.trod enc Tryz.prog w base spare held fuel 51 cs = some x → ∃ t : Tm, RdC w t.cells cs ∧ t.small ∧ t.rng := by
  intro fuel
  induction fuel using Nat.strongRecOn with
  | _ fuel ih =>
    intro cs x h
    obtain ⟨xs, n, rfl, _, hl, hxs, hf⟩ := DataW.trod_struct Tryz.underlying51 h
    have hl4 : cs.length = 4 := hl.trans (by kernel_rfl)
    have hx4 : xs.length = 4 := hxs
    have c3 : Tryz.prog.cellsOf 3 = 1 := by kernel_rfl
    have c2 : Tryz.prog.cellsOf 2 = 1 := by kernel_rfl
    have c9 : Tryz.prog.cellsOf 9 = 1 := by kernel_rfl
    have c39 : Tryz.prog.cellsOf 39 = 1 := by kernel_rfl
    obtain ⟨a, b, c, d, rfl⟩ := len4 hl4
    · skip
      have h0 := hf 0 { name := "Kind", type := 3, offset := 0, embedded := false, tag := "", pkgPath := "", byteOffset := 0 } rfl
      have h1 := hf 1 { name := "N", type := 2, offset := 1, embedded := false, tag := "", pkgPath := "", byteOffset := 8 } rfl
      have h2 := hf 2 { name := "S", type := 9, offset := 2, embedded := false, tag := "", pkgPath := "", byteOffset := 16 } rfl
      have h3 := hf 3 { name := "L", type := 39, offset := 3, embedded := false, tag := "", pkgPath := "", byteOffset := 32 } rfl
      simp only [c3, c2, c9, c39, List.getElem?_eq_getElem (show 0 < xs.length by omega), List.getElem?_eq_getElem (show 1 < xs.length by omega), List.getElem?_eq_getElem (show 2 < xs.length by omega), List.getElem?_eq_getElem (show 3 < xs.length by omega),
        List.drop_zero, List.drop_succ_cons, List.take_succ_cons, List.take_zero] at h0 h1 h2 h3
      obtain ⟨k, r0, k0, k1⟩ := rd_int Tryz.underlying3 h0
      obtain ⟨m, r1, m0, m1⟩ := rd_int Tryz.underlying2 h1
      obtain ⟨s, r2, hs⟩ := rd_string Tryz.underlying9 h2
      obtain ⟨l, r3, hll, hq⟩ := rd_slice Tm.cells (fun t => t.small ∧ t.rng) 4 Tryz.underlying39 (by kernel_rfl) (by omega) Tm.cells_len (fun m cs x hm hx => by
        obtain ⟨t, q1, q2⟩ := ih m (by omega) cs x hx
        exact ⟨t, q1, q2⟩) h3
      refine ⟨.mk k m s l, ?_, ?_, ?_⟩
      · rw [Tm.cells_eq]
        exact rdc_append r0 (rdc_append r1 (rdc_append r2 r3))
      · refine Tm.small_iff.2 ⟨?_, ?_, fun t ht => (hq t ht).1⟩
        · exact hs
        · exact hll
      · exact Tm.rng_iff.2 ⟨⟨m0, m1⟩, fun t ht => (hq t ht).2⟩
theorem OpT.cells_len (o : OpT) : o.cells.length = 7 := rfl
theorem rd_op (fuel : Nat) (cs : List Value) (x : DataW H × List MemPlace) (h : DataW.trod enc Tryz.prog w base spare held fuel 85 cs = some x) : ∃ o : OpT, RdC w o.cells cs ∧ o.term.small ∧ o.term.rng := by
  obtain ⟨xs, n, rfl, _, hl, hxs, hf⟩ := DataW.trod_struct Tryz.underlying85 h
  have hl7 : cs.length = 7 := hl.trans (by kernel_rfl)
  have hx4 : xs.length = 4 := hxs
  have c3 : Tryz.prog.cellsOf 3 = 1 := by kernel_rfl
  have c51 : Tryz.prog.cellsOf 51 = 4 := by kernel_rfl
  obtain ⟨a, b, c, d, e, f, g, rfl⟩ := len7 hl7
  · skip
    have h0 := hf 0 { name := "Kind", type := 3, offset := 0, embedded := false, tag := "", pkgPath := "", byteOffset := 0 } rfl
    have h1 := hf 1 { name := "Term", type := 51, offset := 1, embedded := false, tag := "", pkgPath := "", byteOffset := 8 } rfl
    have h2 := hf 2 { name := "Code", type := 3, offset := 5, embedded := false, tag := "", pkgPath := "", byteOffset := 64 } rfl
    have h3 := hf 3 { name := "Skip", type := 3, offset := 6, embedded := false, tag := "", pkgPath := "", byteOffset := 72 } rfl
    simp only [c3, c51, List.getElem?_eq_getElem (show 0 < xs.length by omega), List.getElem?_eq_getElem (show 1 < xs.length by omega), List.getElem?_eq_getElem (show 2 < xs.length by omega), List.getElem?_eq_getElem (show 3 < xs.length by omega),
      List.drop_zero, List.drop_succ_cons, List.take_succ_cons, List.take_zero] at h0 h1 h2 h3
    obtain ⟨k, r0, _⟩ := rd_int Tryz.underlying3 h0
    obtain ⟨t, r1, t1, t2⟩ := rd_tm _ _ _ h1
    obtain ⟨m, r2, _⟩ := rd_int Tryz.underlying3 h2
    obtain ⟨q, r3, _⟩ := rd_int Tryz.underlying3 h3
    refine ⟨⟨k, t, m, q⟩, ?_, t1, t2⟩
    have := rdc_append r0 (rdc_append r1 (rdc_append r2 r3))
    have e : (⟨k, t, m, q⟩ : OpT).cells = [.int .i64 k] ++ (t.cells ++ ([.int .i64 m] ++ [.int .i64 q])) := by simp [OpT.cells, Tm.cells_eq]
    rw [e]
    exact this
/-- An expression. -/
theorem rd_expr {fuel : Nat} {cs : List Value} {x : DataW H × List MemPlace} (h : DataW.trod enc Tryz.prog w base spare held fuel 24 cs = some x) :
    ∃ l : List OpT, RdC w [.sl (l.map OpT.cells)] cs ∧ l.length ≤ 9223372036854775807 ∧ ∀ o ∈ l, o.term.small ∧ o.term.rng := by
  obtain ⟨xs, n, rfl, _, hl, hxs, hf⟩ := DataW.trod_struct Tryz.underlying24 h
  have hl1 : cs.length = 1 := hl.trans (by kernel_rfl)
  have hx1 : xs.length = 1 := hxs
  have c22 : Tryz.prog.cellsOf 22 = 1 := by kernel_rfl
  obtain ⟨a, rfl⟩ := len1 hl1
  · skip
    have h0 := hf 0 { name := "Ops", type := 22, offset := 0, embedded := false, tag := "", pkgPath := "", byteOffset := 0 } rfl
    simp only [c22, List.getElem?_eq_getElem (show 0 < xs.length by omega), List.drop_zero, List.take_succ_cons, List.take_zero] at h0
    have c85 : Tryz.prog.cellsOf 85 = 7 := by kernel_rfl
    obtain ⟨l, l1, l2, l3⟩ := rd_slice OpT.cells (fun o => o.term.small ∧ o.term.rng) 7 Tryz.underlying22 c85 (by omega) OpT.cells_len (fun m cs x hm hx => rd_op m cs x hx) h0
    rw [maxLen_eq] at l2
    exact ⟨l, l1, by omega, l3⟩
end
/-- A struct's cells, read, as the value of the struct. -/
theorem dr_agg {w : World} {vs : List V} {A : Array Value} (h : RdC w vs A.toList) : DR w (fun h => h < w.heap.size) (.agg vs) (.agg A) := by
  refine .agg vs A (by simpa using h.1.symm) fun i u hu => ?_
  have hlt : i < A.size := by
    have := (List.getElem?_eq_some_iff.1 hu).1
    rw [h.1] at this
    simpa using this
  have hv : A.toList[i]? = some A[i] := by simp [hlt]
  have := h.2.1 i u _ hu hv
  rw [Array.getD_eq_getD_getElem?, Array.getElem?_eq_getElem hlt]
  exact this
end Go.Vm

namespace Go.Vm
open Go Go.Proofs Go.RowKit Go.ChangeShapes Go.WideShapes
/-! ### The library, as the abstract machine's calls -/
inductive LibX : CallRel
  | fmt (n : Int) (h0 : -9223372036854775808 ≤ n) (h1 : n ≤ 9223372036854775807) : LibX 114 [.int .i64 n, .int .i64 10] m0 (.str (bs (Lib.itoa n))) m0
  | rep (k : Nat) (h : k ≤ 4) : LibX 235 [.str (bs [48]), .int .i64 k] m0 (.str (bs (List.replicate k 48))) m0
  | join (ss : List S) (sep : S) (h1 : ss.length ≤ 1000000) (h2 : (joinS sep ss).length ≤ 100000000000) : LibX 93 [.sl (ss.map fun s => [.str (bs s)]), .str (bs sep)] m0 (.str (bs (joinS sep ss))) m0
  | split : LibX 247 [.str (bs signTable), .str (bs [32])] m0 (.sl (signs.map fun s => [.str (bs s)])) m0
  | compact (l : List S) (h : l.length ≤ 1000000) : LibX 180 [.osl 0] ⟨[], [.live 9 1 (strs l)], [], []⟩ (.sl (strs (Lib.compact l))) m0
  | quote (l : S) (h : l.length ≤ 1000000) : LibX 115 [.str (bs l)] m0 (.str (bs (quoteS l))) m0
theorem mixed : Tryz.prog.follows .mixedOrders = true := by kernel_rfl
theorem cfg_ip : ∀ (g : FuncId) (e : TypeId) (sz : Nat) (xs ys : List (List V)), cfg.ip g e sz xs ys → SndIp cfg.P g e sz xs ys := by
  rintro g e sz xs ys ⟨rfl, rfl, l, hl, rfl, rfl⟩
  exact snd_sort e l hl
theorem snd_hex (l : S) (hl : l.length ≤ 1000000) : Snd Tryz.prog J0 94 [.str (bs l)] m0 (.str (bs (hexS l))) m0 :=
  Run.sound (c := cfg) (X := fun _ _ _ _ _ => False) J0_stable mixed (fun _ _ _ _ _ h => h.elim) cfg_ip (f94 _ l hl)
theorem libX_snd : ∀ (g : FuncId) (a : List V) (m : Mem) (r : V) (m' : Mem), LibX g a m r m' → Snd cfg.P cfg.J g a m r m' := by
  intro g a m r m' h
  cases h with
  | fmt n h0 h1 => exact snd_fmt n h0 h1
  | rep k h => exact snd_rep k h
  | join ss sep h1 h2 => exact snd_join ss sep (by omega) (by omega)
  | split => exact snd_split
  | compact l h => exact snd_compact l h
  | quote l h => exact snd_quote l h fun c => snd_hex [c] (by simp)
theorem libX_ok : LibOk LibX where
  fmt n h0 h1 := .ext (.fmt n h0 h1)
  rep k h := .ext (.rep k h)
  join ss sep h1 h2 := .ext (.join ss sep h1 h2)
  split := .ext .split
  quote l h := .ext (.quote l h)
theorem libX_nm : LibNm LibX where
  compact l h := .ext (.compact l h)
/-- The law answers true. -/
theorem one_snd (a b : List OpT) (ha : a.length ≤ 9223372036854775807) (hsa : ∀ o ∈ a, o.term.small ∧ o.term.rng) (hsb : ∀ o ∈ b, o.term.small ∧ o.term.rng) :
    Snd Tryz.prog J0 3 [.agg [.sl (a.map OpT.cells)], .agg [.sl (b.map OpT.cells)]] m0 (.bool true) m0 :=
  Run.sound (c := cfg) J0_stable mixed libX_snd cfg_ip (f3 LibX libX_ok a b ha (fun o ho => (hsa o ho).1) (fun o ho => (hsb o ho).1) (fun _ h => ops_ok' h fun o ho => (hsa o ho).2) (fun _ h => ops_ok' h fun o ho => (hsb o ho).2) (one_plain a b))
/-! ### The row -/
theorem change_and_shaped {H : Type} {enc : TypeId × Value → H} {a : Assume} {C : Checked} {os : Os} {f : FuncId} {fn : Func} {s : ChangeSpec} {conds : List PathCond} {apart fresh handsOn again : Bool} {X : World → Array Value → Prop}
    (hX : ∀ (w w' : World) (args : Array Value), w.heap = w'.heap → X w args → X w' args)
    (own : ownKnob C.prog.godebug = none) (started : os.Started) (noInit : C.prog.inits.idxOf? f = none) (hfn : C.prog.funcs[f]? = some fn)
    (witness : ∃ (w : World) (tape : Tape) (i : Input), w.os = os ∧ (w.forCall tape i).Shaped C.prog ∧ i.vars = [] ∧ Input.okWide C.prog (w.forCall tape i) .any w.heap.size f i ∧
      ((s.pre enc C.prog fn conds apart (w.forCall tape i).memory i.args ∧ X (w.forCall tape i).memory i.args) ∧ sizedMet enc C.prog fn (OpenSpec.ofChange s) apart (w.forCall tape i).memory i.args) ∧ a.holds C.prog (lone (Frame.enter C.prog f i.args .normal) [] (w.forCall tape i)))
    (contract : ∀ (W : World) (base : Nat) (args : Array Value) (ds gs : List (DataW H)) (before : List MemPlace),
      (∀ (j : Nat) t v, fn.params[j]? = some t → args[j]? = some v → Value.okWide C.prog W .any base t v) →
      DataW.Whole enc C.prog fn.params.toList s.vars apart W args.toList ds gs before →
      W.ShapedOpen C.prog → X W args →
      Calls C.prog f args W fun e W' => ∃ v, e = .returned v ∧ s.post enc C.prog fn apart fresh handsOn again W args v W') :
    ReturnsInHanded a C os f .any (fun w args => (s.pre enc C.prog fn conds apart w args ∧ X w args) ∧ sizedMet enc C.prog fn (OpenSpec.ofChange s) apart w args) (s.post enc C.prog fn apart fresh handsOn again) := by
  refine returnsInHanded_of_calls own started noInit witness ?_
  intro w tape i _ hsh _ hok hpre hholds
  obtain ⟨_, _, _, fn', hfn', _, _, _, _, hval⟩ := hok
  have e : fn' = fn := Option.some.inj (hfn'.symm.trans hfn)
  subst e
  obtain ⟨⟨⟨ds, gs, before, hw, hc⟩, hx⟩, hz⟩ := hpre
  have hw' := DataW.Whole.of_heap (w' := w.forCall tape i) (by rfl) hw
  refine (contract (w.forCall tape i) w.heap.size i.args ds gs before hval hw' hsh (hX _ _ _ (by rfl) hx)).mono fun e W' ⟨v, he, hp⟩ => ?_
  subst he
  exact ChangeSpec.post_blind hp
theorem own : ownKnob Tryz.prog.godebug = none := by kernel_rfl
theorem laidOut : laidOutB Tryz.prog = true := by kernel_rfl
/-- What the row's list and the world's shape give. -/
theorem j0_of {W : World} {laid : List (String × DataW Unit)} (hsh : W.ShapedOpen Tryz.prog) (h : laidMetH Tryz.prog laid W) (hl : laid.filter (fun x => x.1 == "internal/strconv.uint64pow10") = [("internal/strconv.uint64pow10", Lib.tabData .u64 Lib.pow10Tab)]) : J0 W (fun h => h < W.heap.size) := by
  have h1 := laidMetH.filter (fun x => x.1 == "internal/strconv.uint64pow10") h
  rw [hl, MakeChecks.laidMetH_plain _ _ _ (by kernel_rfl)] at h1
  obtain ⟨m, hm⟩ := cell_of_shapedOpen_int (g := 1) (t := 3) (k := .i64) (zero := #[.int .i64 0]) hsh (of_decide_eq_true (by kernel_rfl)) (by kernel_rfl) rfl (by kernel_rfl) (by kernel_rfl) Tryz.underlying3
  have h1s : 1 < W.heap.size := by
    obtain ⟨_, _, _, hh, _⟩ := cell_at hm
    exact (Array.getElem?_eq_some_iff.1 hh).1
  exact ⟨by show 0 < W.heap.size; omega, h1s, Lib.tabIs_of_head (n := 20) (t := 268) (e := 203) glob0 (by kernel_rfl) (by kernel_rfl) (by kernel_rfl) (by kernel_rfl) (by kernel_rfl) h1, m, hm⟩
end Go.Vm

namespace Go.Vm
open Go Go.Proofs
theorem len2 {α : Type} {l : List α} (h : l.length = 2) : ∃ a b, l = [a, b] := by
  match l, h with
  | [a, b], _ => exact ⟨a, b, rfl⟩
theorem len5 {α : Type} {l : List α} (h : l.length = 5) : ∃ a b c d e, l = [a, b, c, d, e] := by
  match l, h with
  | [a, b, c, d, e], _ => exact ⟨a, b, c, d, e, rfl⟩
theorem len6 {α : Type} {l : List α} (h : l.length = 6) : ∃ a b c d e f, l = [a, b, c, d, e, f] := by
  match l, h with
  | [a, b, c, d, e, f], _ => exact ⟨a, b, c, d, e, f, rfl⟩
section
variable {H : Type} {enc : TypeId × Value → H} {w : World} {base : Nat} {spare : Nat → Bool} {held : Bool}
theorem rd_ops (fuel : Nat) (cs : List Value) (x : DataW H × List MemPlace) (h : DataW.trod enc Tryz.prog w base spare held fuel 24 cs = some x) : ∃ e : Exp, RdC w (exCells e) cs ∧ exSmall e ∧ exRng e := by
  obtain ⟨l, l1, l2, l3⟩ := rd_expr h
  exact ⟨l, l1, ⟨l2, fun o ho => (l3 o ho).1⟩, fun o ho => (l3 o ho).2⟩
theorem rd_pred (fuel : Nat) (cs : List Value) (x : DataW H × List MemPlace) (h : DataW.trod enc Tryz.prog w base spare held fuel 41 cs = some x) : ∃ p : Pd, RdC w p.cells cs ∧ p.small ∧ p.rng := by
  obtain ⟨xs, n, rfl, _, hl, hxs, hf⟩ := DataW.trod_struct Tryz.underlying41 h
  have hl2 : cs.length = 2 := hl.trans (by kernel_rfl)
  have hx2 : xs.length = 2 := hxs
  have c9 : Tryz.prog.cellsOf 9 = 1 := by kernel_rfl
  have c39 : Tryz.prog.cellsOf 39 = 1 := by kernel_rfl
  obtain ⟨a, b, rfl⟩ := len2 hl2
  · skip
    have h0 := hf 0 { name := "Name", type := 9, offset := 0, embedded := false, tag := "", pkgPath := "", byteOffset := 0 } rfl
    have h1 := hf 1 { name := "Terms", type := 39, offset := 1, embedded := false, tag := "", pkgPath := "", byteOffset := 16 } rfl
    simp only [c9, c39, List.getElem?_eq_getElem (show 0 < xs.length by omega), List.getElem?_eq_getElem (show 1 < xs.length by omega), List.drop_zero, List.drop_succ_cons, List.take_succ_cons, List.take_zero] at h0 h1
    obtain ⟨s, r0, hs⟩ := rd_string Tryz.underlying9 h0
    obtain ⟨l, r1, hll, hq⟩ := rd_slice Tm.cells (fun t => t.small ∧ t.rng) 4 Tryz.underlying39 (by kernel_rfl) (by omega) Tm.cells_len (fun m cs x _ hx => rd_tm m cs x hx) h1
    rw [maxLen_eq] at hs hll
    exact ⟨⟨s, l⟩, rdc_append r0 r1, ⟨by omega, by omega, fun t ht => (hq t ht).1⟩, fun t ht => (hq t ht).2⟩
theorem rd_scope (fuel : Nat) (cs : List Value) (x : DataW H × List MemPlace) (h : DataW.trod enc Tryz.prog w base spare held fuel 91 cs = some x) : ∃ s : Sc, RdC w s.cells cs ∧ s.small := by
  obtain ⟨xs, n, rfl, _, hl, hxs, hf⟩ := DataW.trod_struct Tryz.underlying91 h
  have hl2 : cs.length = 2 := hl.trans (by kernel_rfl)
  have hx2 : xs.length = 2 := hxs
  have c9 : Tryz.prog.cellsOf 9 = 1 := by kernel_rfl
  have c3 : Tryz.prog.cellsOf 3 = 1 := by kernel_rfl
  obtain ⟨a, b, rfl⟩ := len2 hl2
  · skip
    have h0 := hf 0 { name := "Kind", type := 3, offset := 0, embedded := false, tag := "", pkgPath := "", byteOffset := 0 } rfl
    have h1 := hf 1 { name := "Key", type := 9, offset := 1, embedded := false, tag := "", pkgPath := "", byteOffset := 8 } rfl
    simp only [c9, c3, List.getElem?_eq_getElem (show 0 < xs.length by omega), List.getElem?_eq_getElem (show 1 < xs.length by omega), List.drop_zero, List.drop_succ_cons, List.take_succ_cons, List.take_zero] at h0 h1
    obtain ⟨k, r0, _⟩ := rd_int Tryz.underlying3 h0
    obtain ⟨s, r1, hs⟩ := rd_string Tryz.underlying9 h1
    rw [maxLen_eq] at hs
    exact ⟨⟨k, s⟩, rdc_append r0 r1, hs⟩
theorem rd_preds {fuel : Nat} {cs : List Value} {x : DataW H × List MemPlace} (h : DataW.trod enc Tryz.prog w base spare held fuel 30 cs = some x) : ∃ l : List Pd, RdC w [.sl (l.map Pd.cells)] cs ∧ l.length ≤ 9223372036854775807 ∧ ∀ p ∈ l, p.small ∧ p.rng := by
  obtain ⟨l, l1, l2, l3⟩ := rd_slice Pd.cells (fun p => p.small ∧ p.rng) 2 Tryz.underlying30 (by kernel_rfl) (by omega) (fun _ => rfl) (fun m cs x _ hx => rd_pred m cs x hx) h
  rw [maxLen_eq] at l2
  exact ⟨l, l1, l2, l3⟩
theorem rd_scopes {fuel : Nat} {cs : List Value} {x : DataW H × List MemPlace} (h : DataW.trod enc Tryz.prog w base spare held fuel 33 cs = some x) : ∃ l : List Sc, RdC w [.sl (l.map Sc.cells)] cs ∧ l.length ≤ 9223372036854775807 ∧ ∀ s ∈ l, s.small := by
  obtain ⟨l, l1, l2, l3⟩ := rd_slice Sc.cells (fun s => s.small) 2 Tryz.underlying33 (by kernel_rfl) (by omega) (fun _ => rfl) (fun m cs x _ hx => rd_scope m cs x hx) h
  rw [maxLen_eq] at l2
  exact ⟨l, l1, l2, l3⟩
theorem rd_exprs {fuel : Nat} {cs : List Value} {x : DataW H × List MemPlace} (h : DataW.trod enc Tryz.prog w base spare held fuel 43 cs = some x) : ∃ l : List Exp, RdC w [.sl (l.map exCells)] cs ∧ l.length ≤ 9223372036854775807 ∧ ∀ e ∈ l, exSmall e ∧ exRng e := by
  obtain ⟨l, l1, l2, l3⟩ := rd_slice exCells (fun e => exSmall e ∧ exRng e) 1 Tryz.underlying43 (by kernel_rfl) (by omega) (fun _ => rfl) (fun m cs x _ hx => rd_ops m cs x hx) h
  rw [maxLen_eq] at l2
  exact ⟨l, l1, l2, l3⟩
theorem rd_rule (fuel : Nat) (cs : List Value) (x : DataW H × List MemPlace) (h : DataW.trod enc Tryz.prog w base spare held fuel 45 cs = some x) : ∃ r : Ru, RdC w r.cells cs ∧ r.small ∧ r.rng := by
  obtain ⟨xs, n, rfl, _, hl, hxs, hf⟩ := DataW.trod_struct Tryz.underlying45 h
  have hl5 : cs.length = 5 := hl.trans (by kernel_rfl)
  have hx4 : xs.length = 4 := hxs
  have c41 : Tryz.prog.cellsOf 41 = 2 := by kernel_rfl
  have c30 : Tryz.prog.cellsOf 30 = 1 := by kernel_rfl
  have c43 : Tryz.prog.cellsOf 43 = 1 := by kernel_rfl
  have c33 : Tryz.prog.cellsOf 33 = 1 := by kernel_rfl
  obtain ⟨a, b, c, d, e, rfl⟩ := len5 hl5
  · skip
    have h0 := hf 0 { name := "Head", type := 41, offset := 0, embedded := false, tag := "", pkgPath := "", byteOffset := 0 } rfl
    have h1 := hf 1 { name := "Body", type := 30, offset := 2, embedded := false, tag := "", pkgPath := "", byteOffset := 40 } rfl
    have h2 := hf 2 { name := "Exprs", type := 43, offset := 3, embedded := false, tag := "", pkgPath := "", byteOffset := 64 } rfl
    have h3 := hf 3 { name := "Scopes", type := 33, offset := 4, embedded := false, tag := "", pkgPath := "", byteOffset := 88 } rfl
    simp only [c41, c30, c43, c33, List.getElem?_eq_getElem (show 0 < xs.length by omega), List.getElem?_eq_getElem (show 1 < xs.length by omega), List.getElem?_eq_getElem (show 2 < xs.length by omega), List.getElem?_eq_getElem (show 3 < xs.length by omega),
      List.drop_zero, List.drop_succ_cons, List.take_succ_cons, List.take_zero] at h0 h1 h2 h3
    obtain ⟨p, r0, p1, p2⟩ := rd_pred _ _ _ h0
    obtain ⟨l, r1, l1, l2⟩ := rd_preds h1
    obtain ⟨q, r2, q1, q2⟩ := rd_exprs h2
    obtain ⟨s, r3, s1, s2⟩ := rd_scopes h3
    exact ⟨⟨p, l, q, s⟩, rdc_append r0 (rdc_append r1 (rdc_append r2 r3)), ⟨p1, ⟨l1, fun p hp => (l2 p hp).1⟩, ⟨q1, fun e he => (q2 e he).1⟩, s1, s2⟩, p2, fun p hp => (l2 p hp).2, fun e he => (q2 e he).2⟩
theorem rd_rules {fuel : Nat} {cs : List Value} {x : DataW H × List MemPlace} (h : DataW.trod enc Tryz.prog w base spare held fuel 31 cs = some x) : ∃ l : List Ru, RdC w [.sl (l.map Ru.cells)] cs ∧ l.length ≤ 9223372036854775807 ∧ ∀ r ∈ l, r.small ∧ r.rng := by
  obtain ⟨l, l1, l2, l3⟩ := rd_slice Ru.cells (fun r => r.small ∧ r.rng) 5 Tryz.underlying31 (by kernel_rfl) (by omega) (fun _ => rfl) (fun m cs x _ hx => rd_rule m cs x hx) h
  rw [maxLen_eq] at l2
  exact ⟨l, l1, l2, l3⟩
theorem rd_check (fuel : Nat) (cs : List Value) (x : DataW H × List MemPlace) (h : DataW.trod enc Tryz.prog w base spare held fuel 48 cs = some x) : ∃ c : Ck, RdC w c.cells cs ∧ c.small ∧ c.rng := by
  obtain ⟨xs, n, rfl, _, hl, hxs, hf⟩ := DataW.trod_struct Tryz.underlying48 h
  have hl2 : cs.length = 2 := hl.trans (by kernel_rfl)
  have hx2 : xs.length = 2 := hxs
  have c4 : Tryz.prog.cellsOf 4 = 1 := by kernel_rfl
  have c31 : Tryz.prog.cellsOf 31 = 1 := by kernel_rfl
  obtain ⟨a, b, rfl⟩ := len2 hl2
  · skip
    have h0 := hf 0 { name := "All", type := 4, offset := 0, embedded := false, tag := "", pkgPath := "", byteOffset := 0 } rfl
    have h1 := hf 1 { name := "Queries", type := 31, offset := 1, embedded := false, tag := "", pkgPath := "", byteOffset := 8 } rfl
    simp only [c4, c31, List.getElem?_eq_getElem (show 0 < xs.length by omega), List.getElem?_eq_getElem (show 1 < xs.length by omega), List.drop_zero, List.drop_succ_cons, List.take_succ_cons, List.take_zero] at h0 h1
    obtain ⟨k, r0⟩ := rd_bool Tryz.underlying4 h0
    obtain ⟨l, r1, l1, l2⟩ := rd_rules h1
    exact ⟨⟨k, l⟩, rdc_append r0 r1, ⟨l1, fun r hr => (l2 r hr).1⟩, fun r hr => (l2 r hr).2⟩
theorem rd_checks {fuel : Nat} {cs : List Value} {x : DataW H × List MemPlace} (h : DataW.trod enc Tryz.prog w base spare held fuel 32 cs = some x) : ∃ l : List Ck, RdC w [.sl (l.map Ck.cells)] cs ∧ l.length ≤ 9223372036854775807 ∧ ∀ c ∈ l, c.small ∧ c.rng := by
  obtain ⟨l, l1, l2, l3⟩ := rd_slice Ck.cells (fun c => c.small ∧ c.rng) 2 Tryz.underlying32 (by kernel_rfl) (by omega) (fun _ => rfl) (fun m cs x _ hx => rd_check m cs x hx) h
  rw [maxLen_eq] at l2
  exact ⟨l, l1, l2, l3⟩
theorem rd_block {fuel : Nat} {cs : List Value} {x : DataW H × List MemPlace} (h : DataW.trod enc Tryz.prog w base spare held fuel 35 cs = some x) : ∃ b : Bk, RdC w b.cells cs ∧ b.small ∧ b.rng := by
  obtain ⟨xs, n, rfl, _, hl, hxs, hf⟩ := DataW.trod_struct Tryz.underlying35 h
  have hl4 : cs.length = 4 := hl.trans (by kernel_rfl)
  have hx4 : xs.length = 4 := hxs
  have c30 : Tryz.prog.cellsOf 30 = 1 := by kernel_rfl
  have c31 : Tryz.prog.cellsOf 31 = 1 := by kernel_rfl
  have c32 : Tryz.prog.cellsOf 32 = 1 := by kernel_rfl
  have c33 : Tryz.prog.cellsOf 33 = 1 := by kernel_rfl
  obtain ⟨a, b, c, d, rfl⟩ := len4 hl4
  · skip
    have h0 := hf 0 { name := "Facts", type := 30, offset := 0, embedded := false, tag := "", pkgPath := "", byteOffset := 0 } rfl
    have h1 := hf 1 { name := "Rules", type := 31, offset := 1, embedded := false, tag := "", pkgPath := "", byteOffset := 24 } rfl
    have h2 := hf 2 { name := "Checks", type := 32, offset := 2, embedded := false, tag := "", pkgPath := "", byteOffset := 48 } rfl
    have h3 := hf 3 { name := "Scopes", type := 33, offset := 3, embedded := false, tag := "", pkgPath := "", byteOffset := 72 } rfl
    simp only [c30, c31, c32, c33, List.getElem?_eq_getElem (show 0 < xs.length by omega), List.getElem?_eq_getElem (show 1 < xs.length by omega), List.getElem?_eq_getElem (show 2 < xs.length by omega), List.getElem?_eq_getElem (show 3 < xs.length by omega),
      List.drop_zero, List.drop_succ_cons, List.take_succ_cons, List.take_zero] at h0 h1 h2 h3
    obtain ⟨f, r0, f1, f2⟩ := rd_preds h0
    obtain ⟨l, r1, l1, l2⟩ := rd_rules h1
    obtain ⟨k, r2, k1, k2⟩ := rd_checks h2
    obtain ⟨s, r3, s1, s2⟩ := rd_scopes h3
    exact ⟨⟨f, l, k, s⟩, rdc_append r0 (rdc_append r1 (rdc_append r2 r3)), ⟨⟨f1, fun p hp => (f2 p hp).1⟩, ⟨l1, fun r hr => (l2 r hr).1⟩, ⟨k1, fun c hc => (k2 c hc).1⟩, s1, s2⟩, fun p hp => (f2 p hp).2, fun r hr => (l2 r hr).2, fun c hc => (k2 c hc).2⟩
end
end Go.Vm

namespace Go.Vm
open Go Go.Proofs Go.RowKit Go.ChangeShapes Go.WideShapes Go.Proofs.YtbbpfakobaiglaaGreatDoor
set_option maxRecDepth 100000 in
/-- An argument that is a block. -/
theorem open_block {H : Type} {enc : TypeId × Value → H} {W : World} {base : Nat} {v : Value} {d : DataW H} {p : List MemPlace} (hv : Value.okWide Tryz.prog W .any base 35 v) (h : DataW.Trod enc Tryz.prog W 0 (fun _ => true) true 35 v d p) :
    ∃ b : Bk, DR W (fun h => h < W.heap.size) (.agg b.cells) v ∧ b.small ∧ b.rng := by
  obtain ⟨cs, rfl, _⟩ := okWide_struct Tryz.underlying35 hv
  obtain ⟨fuel, hf⟩ := h
  obtain ⟨b, h1, h2, h3⟩ := rd_block hf
  exact ⟨b, dr_agg h1, h2, h3⟩
/-- The empty memory at a call's start. -/
def g0 (W : World) : Gh := { m := fun _ => 0, nb := 0, S := fun _ => .slice none 0 0, B := fun _ => 0, Z := fun _ => 0, nt := 0, M := fun _ => 0, nm := 0, C := fun h => h < W.heap.size }
theorem g0_ok (W : World) : MemOk W (g0 W) m0 := by
  refine ⟨rfl, rfl, rfl, ?_, ?_, ?_, ?_, fun h hh => ⟨hh, fun l hl => ?_⟩⟩
  · intro b cs h; simp [m0] at h
  · intro b cs h; simp [m0] at h
  · intro b cs h; simp [m0] at h
  · intro l l' hl; cases l <;> simp [Held, m0] at hl
  · cases l <;> simp [Held, m0] at hl
theorem snd_calls {f : FuncId} {vs : List V} {A : Array Value} {W : World} (h : Snd Tryz.prog J0 f vs m0 (.bool true) m0) (hJ : J0 W (fun h => h < W.heap.size)) (hs : A.size = vs.length) (hA : ∀ i u, vs[i]? = some u → DR W (fun h => h < W.heap.size) u (A.getD i undef)) :
    Calls Tryz.prog f A W fun e W' => e = .returned (.bool true) ∧ Below W.heap.size W W' := by
  refine (h.2 W (g0 W) A hJ ⟨hs, fun i u hu => .data (hA i u hu)⟩ (g0_ok W)).mono ?_
  rintro e w' ⟨mv, g', rfl, hv, _, hc⟩
  obtain rfl := hv.bool_inv
  exact ⟨rfl, hc.os, hc.tape, hc.output, hc.size, fun k hk => hc.keep k hk fun l hl => by cases l <;> simp [Held, m0] at hl⟩
theorem parts_snd (b : Bk) (hs : b.small) (hr : b.rng) : Snd Tryz.prog J0 4 [.agg b.cells] m0 (.bool true) m0 :=
  Run.sound (c := cfg) J0_stable mixed libX_snd cfg_ip (f4 LibX libX_ok libX_nm b hs (parts_plain b hr))
set_option maxRecDepth 100000 in
theorem parts_lifted (os : Os) (started : os.Started) (H : Type) (enc : TypeId × Value → H) :
    ReturnsInHanded {} Tryz.checked os 4 .any (fun w args => (Rows.printPartsSpec.pre enc Tryz.prog Tryz.f4 [] false w args ∧ laidMetH Tryz.prog Rows.printPartsRow.laid w) ∧ sizedMet enc Tryz.prog Tryz.f4 (OpenSpec.ofChange Rows.printPartsSpec) false w args)
      (Rows.printPartsSpec.post enc Tryz.prog Tryz.f4 false true false false) := by
  refine change_and_shaped (C := Tryz.checked) (X := fun w _ => laidMetH Tryz.prog Rows.printPartsRow.laid w) (fun _ _ _ hh h => h.of_heap hh) own started (by kernel_rfl) Tryz.func4
    (ChangeSpec.witness_shaped (enc := enc) (C := Tryz.checked) (os := os) (X := fun w _ => laidMetH Tryz.prog Rows.printPartsRow.laid w) false (World.laidAll Tryz.prog os Rows.printPartsRow.laid) #[.agg #[.slice none 0 0, .slice none 0 0, .slice none 0 0, .slice none 0 0]] 8 (World.laidAll_os _ _ _)
      (World.shaped_of_ZipB (by kernel_rfl) (by kernel_rfl)) (by kernel_rfl) (by kernel_rfl) (by kernel_rfl)
      (by rw [MakeChecks.laidMetH_plain _ _ _ (by kernel_rfl)]; exact laidMet_laidAll _ (by kernel_rfl) (by kernel_rfl))) ?_
  intro W base args ds gs before hval0 hW hsh hL
  have hval : ∀ (j : Nat) t v, Tryz.f4.params[j]? = some t → args[j]? = some v → Value.okWide Tryz.prog W .any base t v := hval0
  have hW' := hW
  obtain ⟨p, q, hA0, hV, rfl, _, _⟩ := hW
  have hA : DataW.TrodAll enc Tryz.prog W 0 (fun _ => true) true Tryz.f4.params.toList args.toList ds p := hA0
  rw [Tryz.params4] at hA hval
  obtain ⟨v, d, rfl, rfl, ha⟩ := trodAll_one hA
  obtain ⟨rfl, rfl⟩ := trodVars_none hV
  simp only [List.append_nil] at hW'
  have hlt : ∀ x ∈ p, x.block < W.heap.size := fun x hx => by simpa using hW'.lt x hx
  obtain ⟨b, rb, sb, qb⟩ := open_block (hval 0 35 v rfl rfl) ha
  refine (snd_calls (parts_snd b sb qb) (j0_of hsh hL (by kernel_rfl)) rfl (fun i u hu => ?_)).mono ?_
  · match i, hu with
    | 0, hu =>
      simp only [List.getElem?_cons_zero, Option.some.injEq] at hu
      subst hu
      exact rb
  · rintro e W' ⟨rfl, hb'⟩
    refine ⟨_, rfl, _, _, _, [], _, [], hW', trodAll_mk1 (shut_bool Tryz.underlying4 true), trodAll_mk1 (Below.trod laidOut (by kernel_rfl) (of_decide_eq_true (by kernel_rfl)) ha hb' fun x hx => hlt x hx), rfl, hb'.frame _, fun h => by cases h⟩
end Go.Vm
