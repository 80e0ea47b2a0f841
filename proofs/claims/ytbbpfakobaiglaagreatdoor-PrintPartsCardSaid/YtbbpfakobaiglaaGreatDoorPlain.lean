/- The plain law: what the reference lets be the program lets be; two expressions that may be have one text just if they are the same. No program in sight. -/
import Derived.Test.YtbbpfakobaiglaaGreatDoorWalkB
import Derived.Test.YtbbpfakobaiglaaGreatDoorWalkD
set_option linter.unusedVariables false
set_option linter.unusedSimpArgs false
namespace Go.Vm
open Go Go.Proofs
theorem less_irrefl : ∀ a : S, Op.bytesLess a a = false
  | [] => rfl
  | x :: r => by
    have := less_irrefl r
    simp [Op.bytesLess, this]
theorem cmpS_eq (a b : S) : cmpS a b = if a ≠ b then sgn (Op.bytesLess a b) else 0 := by
  unfold cmpS sgn
  by_cases h : a = b
  · subst h
    simp [less_irrefl]
  · rw [if_pos h]
    cases Op.bytesLess a b <;> simp [h]
theorem cmpI_eq (a b : Int) : cmpI a b = if a ≠ b then sgn (a < b) else 0 := by
  unfold cmpI sgn
  by_cases h : a = b
  · subst h
    simp
  · rw [if_pos h]
    by_cases h2 : a < b
    · simp [h2]
    · rw [if_neg h2, if_pos (by omega)]
      simp [h2]
theorem sgn_ne (b : Bool) : sgn b ≠ 0 := by cases b <;> simp [sgn]
theorem or3 (a b : Tm) : orR [cmpI a.kind b.kind, cmpI a.n b.n, cmpS a.s b.s] = if a.kind ≠ b.kind then sgn (a.kind < b.kind) else if a.n ≠ b.n then sgn (a.n < b.n) else if a.s ≠ b.s then sgn (Op.bytesLess a.s b.s) else 0 := by
  rw [cmpI_eq, cmpI_eq, cmpS_eq]
  simp only [orR]
  by_cases h1 : a.kind = b.kind
  · by_cases h2 : a.n = b.n
    · by_cases h3 : a.s = b.s
      · simp [h1, h2, h3]
      · simp [h1, h2, h3, sgn_ne]
    · simp [h1, h2, sgn_ne]
  · simp [h1, sgn_ne]
theorem cmpL_congr {f g : Tm → Tm → Int} (h : ∀ a b, f a b = g a b) : ∀ a b, cmpL f a b = cmpL g a b
  | [], [] => rfl
  | [], _ :: _ => rfl
  | _ :: _, [] => rfl
  | x :: r, y :: q => by simp only [cmpL, h x y, cmpL_congr h r q]
theorem cmpT_eq : ∀ (d : Nat) (a b : Tm), cmpT d a b = cmpR d a b := by
  intro d
  induction d with
  | zero => exact fun a b => or3 a b
  | succ d ih =>
    intro a b
    simp only [cmpT, cmpR, or3]
    rw [cmpL_congr ih]
    by_cases h1 : a.kind = b.kind
    · by_cases h2 : a.n = b.n
      · by_cases h3 : a.s = b.s
        · simp [h1, h2, h3]
        · simp [h1, h2, h3, sgn_ne]
      · simp [h1, h2, sgn_ne]
    · simp [h1, sgn_ne]
theorem bad_eq (i : Nat) (c : Int) : nameBad i c = !(if i = 0 then letterB c else innerB c) := by
  unfold nameBad innerB
  cases hl : letterB c with
  | true => simp
  | false =>
    by_cases hi : i = 0
    · simp [hi]
    · simp only [hi, if_false, Bool.false_eq_true, Bool.false_or, Int.natCast_eq_zero]
      by_cases h1 : c = 95
      · simp [h1]
      · by_cases h2 : c = 58
        · simp [h2]
        · by_cases h3 : c < 48
          · simp [h1, h2, h3]
          · simp [h1, h2, h3]
            by_cases h4 : 57 < c <;> simp [h4] <;> try omega
theorem good_succ : ∀ (l : S) (i : Nat), goodFrom (i + 1) l = l.all fun c => innerB (c.toNat : Int)
  | [], i => rfl
  | c :: r, i => by
    rw [goodFrom, bad_eq, good_succ r (i + 1)]
    simp only [Nat.add_eq_zero_iff, Nat.one_ne_zero, and_false, if_false, List.all_cons]
    cases innerB (c.toNat : Int) <;> simp
theorem inner_of_letter {c : Int} (h : letterB c = true) : innerB c = true := by simp [innerB, h]
theorem nameR_iff (l : S) : nameR l = true ↔ 1 ≤ l.length ∧ l.length ≤ 32 ∧ letterB ((l[0]?.getD 0).toNat : Int) = true ∧ ¬ (4 ≤ l.length ∧ l.take 4 = [104, 101, 120, 58]) ∧ (l.all fun c => innerB (c.toNat : Int)) = true := by
  unfold nameR
  constructor
  · intro h
    repeat' split at h
    all_goals (first | (cases h; done) | skip)
    refine ⟨by omega, by omega, by simp_all, ?_, h⟩
    rintro ⟨h1, h2⟩
    have hn : ¬ (4 ≤ (l.length : Int) ∧ l.take 4 = [104, 101, 120, 58]) := by assumption
    exact hn ⟨by omega, h2⟩
  · rintro ⟨h1, h2, h3, h4, h5⟩
    rw [if_neg (by omega), if_neg (by omega), if_neg (by rw [h3]; decide), if_neg (by rintro ⟨a, b⟩; exact h4 ⟨by omega, b⟩)]
    exact h5
theorem nameT_iff (l : S) : nameT l = true ↔ goodFrom 0 l = true ∧ 1 ≤ l.length ∧ l.length ≤ 32 ∧ prefR l [104, 101, 120, 58] = false := by
  unfold nameT
  constructor
  · intro h
    repeat' split at h
    all_goals (first | (cases h; done) | skip)
    exact ⟨by assumption, by omega, by omega, by simpa using h⟩
  · rintro ⟨h1, h2, h3, h4⟩
    rw [if_pos h1, if_pos (by omega), if_pos (by omega), h4]
    rfl
theorem nameT_eq (l : S) : nameT l = nameR l := by
  rw [Bool.eq_iff_iff, nameT_iff, nameR_iff]
  have hp : prefR l [104, 101, 120, 58] = false ↔ ¬ (4 ≤ l.length ∧ l.take 4 = [104, 101, 120, 58]) := by
    unfold prefR
    split
    · rename_i h
      simp only [List.length_cons, List.length_nil] at h ⊢
      have h4 : 4 ≤ l.length := by omega
      simp [h4]
    · rename_i h
      simp only [List.length_cons, List.length_nil] at h
      have h4 : ¬ 4 ≤ l.length := by omega
      simp [h4]
  rw [hp]
  cases l with
  | nil => simp
  | cons c r =>
    have hg : goodFrom 0 (c :: r) = (letterB (c.toNat : Int) && r.all fun c => innerB (c.toNat : Int)) := by
      rw [goodFrom, bad_eq, good_succ]
      cases letterB (c.toNat : Int) <;> simp
    rw [hg, List.all_cons]
    simp only [List.getElem?_cons_zero, Option.getD_some, Bool.and_eq_true]
    constructor
    · rintro ⟨⟨a1, a2⟩, a3, a4, a5⟩
      exact ⟨a3, a4, a1, a5, inner_of_letter a1, a2⟩
    · rintro ⟨a3, a4, a1, a5, _, a2⟩
      exact ⟨⟨a1, a2⟩, a3, a4, a5⟩
/-! Terms -/
theorem flat_eq (r : Bool) {t : Tm} (h7 : t.kind ≠ 7) : mayT1 r t = mayFlat t := by
  unfold mayT1 mayFlat
  rw [nameT_eq]
  by_cases hl : t.l = []
  · have e1 : ¬ (t.kind ≠ 7 ∧ (0 : Int) < (t.l.length : Int)) := by simp [hl]
    have e2 : ((t.l.length : Int) == 0) = true := by simp [hl]
    rw [if_neg e1, e2]
    by_cases h1 : t.kind = 1
    · simp only [h1, if_true]
      by_cases hn : t.n = 0 <;> cases nameR t.s <;> simp [hn]
    · by_cases h2 : t.kind = 2
      · simp only [h2, if_true]
        by_cases hs : t.s = [] <;> simp [hs]
      · by_cases h3 : t.kind = 3 ∨ t.kind = 5
        · simp only [h1, h2, h3, if_true, if_false]
          by_cases hn : t.n = 0 <;> by_cases hs : (t.s.length : Int) ≤ 256 <;> simp [hn, hs]
        · simp only [h1, h2, h3, if_false]
          by_cases h4 : t.kind = 4
          · simp only [h4, if_true]
            by_cases hs : t.s = [] <;> by_cases a1 : 0 ≤ t.n <;> by_cases a2 : t.n ≤ 253402300799 <;> simp [hs, a1, a2]
          · simp only [h4, if_false]
            by_cases h6 : t.kind = 6
            · simp only [h6, if_true]
              by_cases hs : t.s = [] <;> by_cases a1 : t.n = 0 <;> by_cases a2 : t.n = 1 <;> simp [hs, a1, a2]
            · simp only [h6, h7, if_false]
  · have e1 : t.kind ≠ 7 ∧ (0 : Int) < (t.l.length : Int) := ⟨h7, by
      have := List.length_pos_iff.2 hl
      omega⟩
    have e2 : ((t.l.length : Int) == 0) = false := by simpa using hl
    rw [if_pos e1, e2]
    simp
theorem mayN_flat (N : Nat) {t : Tm} (h7 : t.kind ≠ 7) : mayN (N + 1) t = mayFlat t := flat_eq _ h7
theorem set_eq (N : Nat) (k : Int) : ∀ (l : List Tm) (p : Option Tm), (∀ q, p = some q → True) → (∀ x, l[0]? = some x → p = none → x.kind = k) →
    risT (fun x => if x.kind = 1 then false else mayN (N + 1) x) k p l = setOk k p l
  | [], p, _, _ => rfl
  | x :: r, p, hp, h0 => by
    have ih := set_eq N k r (some x) (fun _ _ => trivial) (fun _ _ h => by cases h)
    simp only [risT, setOk]
    by_cases h1 : x.kind = 1
    · simp [h1]
    · by_cases h7 : x.kind = 7
      · simp [h1, h7]
      · simp only [h1, h7, if_false, mayN_flat N h7, ih, cmpT_eq]
        cases hm : mayFlat x with
        | false => simp
        | true =>
          simp only [Bool.true_eq_false, if_false]
          cases p with
          | none => rw [if_neg (by simpa using h0 x rfl rfl)]
          | some y => rfl
theorem mayT_eq (t : Tm) : mayT t = mayR t := by
  unfold mayT mayR
  by_cases h7 : t.kind = 7
  · rw [if_pos h7]
    simp only [mayN, mayT1, h7, ne_eq, not_true_eq_false, false_and, if_false]
    rw [if_neg (by decide), if_neg (by decide), if_neg (by decide), if_neg (by decide), if_neg (by decide)]
    unfold maySetR risingR
    by_cases hn : t.n = 0
    · by_cases hs : t.s = []
      · obtain ⟨d, hd⟩ : ∃ d, t.dep = d + 1 := ⟨t.dep - 1, by rw [t.dep_eq]; omega⟩
        rw [hd, set_eq d _ t.l none (fun _ h => by cases h) (fun x hx _ => by rw [hx]; rfl)]
        simp only [hn, hs, if_true, not_true_eq_false, if_false]
        by_cases h16 : (16 : Int) < (t.l.length : Int)
        · rw [if_pos h16, show decide ((t.l.length : Int) ≤ 16) = false by simpa using h16]
          simp
        · rw [if_neg h16, show decide ((t.l.length : Int) ≤ 16) = true by simpa using h16]
          simp
      · simp [hn, hs]
    · simp [hn]
  · rw [if_neg h7, mayN_flat _ h7]
end Go.Vm

namespace Go.Vm
open Go Go.Proofs
theorem zero_iff {t : Tm} : zeroR t = true ↔ t = .mk 0 0 [] [] := by
  cases t with
  | mk k n s l =>
    simp only [zeroR, Tm.kind, Tm.n, Tm.s, Tm.l]
    constructor
    · intro h
      by_cases a : k = 0
      · by_cases b : n = 0
        · by_cases c : s = []
          · have hl : l = [] := by simpa [a, b, c] using h
            rw [a, b, c, hl]
          · simp [a, b, c] at h
        · simp [a, b] at h
      · simp [a] at h
    · rintro h
      cases h
      rfl
theorem alone_eq (o : OpT) : aloneR o = mayOpR o := by
  unfold aloneR mayOpR lazyR
  rw [mayT_eq]
  by_cases h1 : o.kind = 1
  · simp only [h1, if_true]
    by_cases a : o.code = 0 <;> by_cases b : o.skip = 0 <;> cases mayR o.term <;> simp [a, b]
  · by_cases h2 : o.kind = 2
    · simp only [h2, if_true]
      by_cases a : 1 ≤ o.code <;> by_cases a2 : o.code ≤ 3 <;> by_cases b : o.skip = 0 <;> cases zeroR o.term <;> simp [a, a2, b]
    · by_cases h3 : o.kind = 3
      · simp only [h3, if_true]
        by_cases a : 1 ≤ o.code <;> by_cases a2 : o.code ≤ 19 <;> by_cases b : o.skip = 0 <;> cases zeroR o.term <;> simp [a, a2, b]
      · simp only [h1, h2, h3, if_false]
        by_cases h4 : o.kind = 4
        · simp only [h4, true_or, if_true]
          by_cases a : o.code = 0 <;> cases zeroR o.term <;> simp [a]
        · by_cases h5 : o.kind = 5
          · simp only [h5, or_true, if_true]
            by_cases a : o.code = 0 <;> cases zeroR o.term <;> simp [a]
          · have e : (o.kind == 5) = false := by simpa using h5
            simp only [h4, h5, or_false, if_false, e]
            cases zeroR o.term <;> simp
theorem whole_eq : ∀ (N : Nat) (l : List OpT) (n : Int), l.length < N → 0 ≤ n → (depthGo l n == 1) = wholeGo l n := by
  intro N
  induction N with
  | zero => exact fun l n h => absurd h (Nat.not_lt_zero _)
  | succ N ih =>
    intro l n hN hn
    cases l with
    | nil => rw [depthGo, wholeGo]
    | cons o r =>
      simp only [List.length_cons] at hN
      rw [depthGo, wholeGo, alone_eq]
      cases hm : mayOpR o with
      | false => rfl
      | true =>
        simp only [Bool.true_eq_false, if_false]
        by_cases h1 : o.kind = 1
        · have e1 : needsR o = 0 := by simp [needsR, h1]
          have e2 : lazyR o = false := by simp [lazyR, h1]
          rw [if_pos h1, e1, e2, if_neg (by omega), if_neg (by decide)]
          exact ih r (n + 1) (by omega) (by omega)
        · by_cases h2 : o.kind = 2
          · have e1 : needsR o = 1 := by simp [needsR, h2]
            have e2 : lazyR o = false := by simp [lazyR, h2]
            rw [if_neg h1, if_pos h2, e1, e2]
            by_cases hlt : n < 1
            · rw [if_pos hlt, if_pos hlt]
              rfl
            · rw [if_neg hlt, if_neg hlt, if_neg (by decide), show n + (1 - 1) = n by omega]
              exact ih r n (by omega) hn
          · by_cases h3 : o.kind = 3
            · have e1 : needsR o = 2 := by simp [needsR, h3]
              have e2 : lazyR o = false := by simp [lazyR, h3]
              rw [if_neg h1, if_neg h2, if_pos h3, e1, e2]
              by_cases hlt : n < 2
              · rw [if_pos hlt, if_pos hlt]
                rfl
              · rw [if_neg hlt, if_neg hlt, if_neg (by decide), show n + (1 - 2) = n - 1 by omega]
                exact ih r (n - 1) (by omega) (by omega)
            · have hk : o.kind = 4 ∨ o.kind = 5 := by
                simp only [mayOpR, h1, h2, h3, if_false] at hm
                split at hm
                · assumption
                · cases hm
              have hs : 1 ≤ o.skip := by
                simp only [mayOpR, h1, h2, h3, if_false, if_pos hk] at hm
                repeat' split at hm
                all_goals (first | (cases hm; done) | simpa using hm)
              have e1 : needsR o = 1 := by simp [needsR, h1, h3]
              have e2 : lazyR o = true := by
                unfold lazyR
                rcases hk with hk | hk <;> simp [hk]
              rw [if_neg h1, if_neg h2, if_neg h3, e1, e2, if_pos rfl]
              by_cases hlt : n < 1
              · rw [if_pos hlt, if_pos hlt]
                rfl
              · rw [if_neg hlt, if_neg hlt]
                by_cases hsk : (r.length : Int) < o.skip
                · rw [if_pos hsk, if_pos hsk]
                  rfl
                · rw [if_neg hsk, if_neg hsk, ← ih (r.take o.skip.toNat) 0 (by simp; omega) (by omega), show n + (1 - 1) = n by omega, ← ih (r.drop o.skip.toNat) n (by simp; omega) hn]
                  by_cases hd : depthGo (r.take o.skip.toNat) 0 = 1
                  · simp [hd]
                  · simp [hd]
theorem may_of {l : List OpT} (h : mayExprR l = true) : mayE l = true := by
  unfold mayExprR at h
  repeat' split at h
  all_goals (first | (cases h; done) | skip)
  unfold mayE
  rw [if_pos (by assumption), ← whole_eq _ l 0 (Nat.lt_succ_self _) (by omega)]
  exact h
/-- Each operation is what it may be, and each stands where it may. -/
theorem whole_ops : ∀ (N : Nat) (l : List OpT) (n : Int), l.length < N → wholeGo l n = true → ∀ o ∈ l, mayOpR o = true := by
  intro N
  induction N with
  | zero => exact fun l n h => absurd h (Nat.not_lt_zero _)
  | succ N ih =>
    intro l n hN h
    cases l with
    | nil => intro o ho; cases ho
    | cons p r =>
      simp only [List.length_cons] at hN
      rw [wholeGo, alone_eq] at h
      cases hm : mayOpR p with
      | false => rw [hm] at h; cases h
      | true =>
        rw [hm, if_neg (by decide)] at h
        split at h
        · cases h
        · have hr : ∀ o ∈ r, mayOpR o = true := by
            split at h
            · split at h
              · cases h
              · split at h
                · cases h
                · rename_i hsk htk
                  have h1 := ih (r.take p.skip.toNat) 0 (by simp; omega) (by simpa using htk)
                  have h2 := ih (r.drop p.skip.toNat) _ (by simp; omega) h
                  intro o ho
                  rw [← List.take_append_drop p.skip.toNat r] at ho
                  rcases List.mem_append.1 ho with ho | ho
                  · exact h1 o ho
                  · exact h2 o ho
            · exact ih r _ (by omega) h
          intro o ho
          rcases List.mem_cons.1 ho with rfl | ho
          · exact hm
          · exact hr o ho
theorem lazy_skip {o : OpT} (hm : mayOpR o = true) (h1 : ¬ o.kind = 1) (h2 : ¬ o.kind = 2) (h3 : ¬ o.kind = 3) : (o.kind = 4 ∨ o.kind = 5) ∧ o.code = 0 ∧ o.term = .mk 0 0 [] [] ∧ 1 ≤ o.skip := by
  simp only [mayOpR, h1, h2, h3, if_false] at hm
  split at hm
  · rename_i hk
    split at hm
    · split at hm
      · exact ⟨hk, by assumption, zero_iff.1 (by assumption), by simpa using hm⟩
      · cases hm
    · cases hm
  · cases hm
end Go.Vm

namespace Go.Vm
open Go Go.Proofs
/-- An expression as a tree. -/
inductive Tree where
  | leaf (t : Tm)
  | un (c : Int) (x : Tree)
  | bin (c : Int) (x y : Tree)
  | lz (b : Bool) (x y : Tree)
def lzS (b : Bool) : S := if b = true then [32, 124, 124, 32] else [32, 38, 38, 32]
def Tree.sd : Tree → Side
  | .leaf t => leafR t
  | .un c x => unaryR c x.sd
  | .bin c x y => binaryR c x.sd y.sd
  | .lz b x y => ⟨x.sd.text ++ lzS b ++ y.sd.text, true, false⟩
def Tree.flat : Tree → List OpT
  | .leaf t => [⟨1, t, 0, 0⟩]
  | .un c x => x.flat ++ [⟨2, tz, c, 0⟩]
  | .bin c x y => x.flat ++ y.flat ++ [⟨3, tz, c, 0⟩]
  | .lz b x y => x.flat ++ ⟨if b = true then 5 else 4, tz, 0, y.flat.length⟩ :: y.flat
def Tree.good : Tree → Prop
  | .leaf t => mayR t = true
  | .un c x => (1 ≤ c ∧ c ≤ 3) ∧ x.good
  | .bin c x y => (1 ≤ c ∧ c ≤ 19) ∧ x.good ∧ y.good
  | .lz b x y => x.good ∧ y.good
def flats : List Tree → List OpT
  | [] => []
  | x :: r => flats r ++ x.flat
theorem op1 {o : OpT} (hm : mayOpR o = true) (h : o.kind = 1) : mayR o.term = true ∧ o = ⟨1, o.term, 0, 0⟩ := by
  obtain ⟨k, t, c, s⟩ := o
  subst h
  simp only [mayOpR, if_true] at hm
  cases hr : mayR t with
  | false => rw [hr] at hm; cases hm
  | true =>
    rw [hr, if_pos rfl] at hm
    split at hm
    · rename_i hc
      subst hc
      have : s = 0 := by simpa using hm
      subst this
      exact ⟨rfl, rfl⟩
    · cases hm
theorem op2 {o : OpT} (hm : mayOpR o = true) (h : o.kind = 2) : (1 ≤ o.code ∧ o.code ≤ 3) ∧ o = ⟨2, tz, o.code, 0⟩ := by
  obtain ⟨k, t, c, s⟩ := o
  subst h
  simp only [mayOpR, if_true] at hm
  rw [if_neg (by decide)] at hm
  by_cases a : 1 ≤ c
  · by_cases b : c ≤ 3
    · cases hz : zeroR t with
      | false => simp [a, b, hz] at hm
      | true =>
        have hs : s = 0 := by simpa [a, b, hz] using hm
        rw [zero_iff.1 hz, hs]
        exact ⟨⟨a, b⟩, rfl⟩
    · simp [a, b] at hm
  · simp [a] at hm
theorem op3 {o : OpT} (hm : mayOpR o = true) (h : o.kind = 3) : (1 ≤ o.code ∧ o.code ≤ 19) ∧ o = ⟨3, tz, o.code, 0⟩ := by
  obtain ⟨k, t, c, s⟩ := o
  subst h
  simp only [mayOpR, if_true] at hm
  rw [if_neg (by decide), if_neg (by decide)] at hm
  by_cases a : 1 ≤ c
  · by_cases b : c ≤ 19
    · cases hz : zeroR t with
      | false => simp [a, b, hz] at hm
      | true =>
        have hs : s = 0 := by simpa [a, b, hz] using hm
        rw [zero_iff.1 hz, hs]
        exact ⟨⟨a, b⟩, rfl⟩
    · simp [a, b] at hm
  · simp [a] at hm
theorem tree : ∀ (N : Nat) (l : List OpT) (st : List Tree), l.length < N → (∀ x ∈ st, x.good) → wholeGo l st.length = true → (∀ o ∈ l, mayOpR o = true) →
    ∃ E : Tree, E.good ∧ opsGo leafR l (st.map Tree.sd) = some [E.sd] ∧ flats st ++ l = E.flat := by
  intro N
  induction N with
  | zero => exact fun l st h => absurd h (Nat.not_lt_zero _)
  | succ N ih =>
    intro l st hN hst hw hm
    cases l with
    | nil =>
      rw [wholeGo] at hw
      have h1 : st.length = 1 := by
        have := (beq_iff_eq.1 hw)
        omega
      match st, h1 with
      | [E], _ => exact ⟨E, hst E (by simp), by rw [opsGo.eq_def]; rfl, by simp [flats]⟩
    | cons o r =>
      simp only [List.length_cons] at hN
      have hmo := hm o (by simp)
      have hmr : ∀ x ∈ r, mayOpR x = true := fun x hx => hm x (List.mem_cons_of_mem _ hx)
      rw [wholeGo, alone_eq, hmo, if_neg (by decide)] at hw
      rw [opsGo.eq_def]
      dsimp only
      by_cases h1 : o.kind = 1
      · have e1 : needsR o = 0 := by simp [needsR, h1]
        have e2 : lazyR o = false := by simp [lazyR, h1]
        rw [e1, e2, if_neg (by omega), if_neg (by decide)] at hw
        obtain ⟨g1, g2⟩ := op1 hmo h1
        rw [if_pos h1]
        obtain ⟨E, q1, q2, q3⟩ := ih r (.leaf o.term :: st) (by omega) (fun x hx => by
          rcases List.mem_cons.1 hx with rfl | hx
          · exact g1
          · exact hst x hx) (by simpa using hw) hmr
        refine ⟨E, q1, q2, ?_⟩
        rw [← q3]
        simp only [flats, Tree.flat, ← g2, List.append_assoc, List.singleton_append]
      · by_cases h2 : o.kind = 2
        · have e1 : needsR o = 1 := by simp [needsR, h2]
          have e2 : lazyR o = false := by simp [lazyR, h2]
          rw [e1, e2] at hw
          split at hw
          · cases hw
          · rename_i hlt
            rw [if_neg (by decide)] at hw
            obtain ⟨g1, g2⟩ := op2 hmo h2
            rw [if_neg h1, if_pos h2]
            cases st with
            | nil => exact absurd (by simp) hlt
            | cons x st =>
              obtain ⟨E, q1, q2, q3⟩ := ih r (.un o.code x :: st) (by omega) (fun z hz => by
                rcases List.mem_cons.1 hz with rfl | hz
                · exact ⟨g1, hst x (by simp)⟩
                · exact hst z (by simp [hz])) (by simpa using hw) hmr
              refine ⟨E, q1, q2, ?_⟩
              rw [← q3]
              simp only [flats, Tree.flat, ← g2, List.append_assoc, List.singleton_append]
        · by_cases h3 : o.kind = 3
          · have e1 : needsR o = 2 := by simp [needsR, h3]
            have e2 : lazyR o = false := by simp [lazyR, h3]
            rw [e1, e2] at hw
            split at hw
            · cases hw
            · rename_i hlt
              rw [if_neg (by decide)] at hw
              obtain ⟨g1, g2⟩ := op3 hmo h3
              rw [if_neg h1, if_neg h2, if_pos h3]
              match st, hst, hlt, hw with
              | [], _, hlt, _ => exact absurd (by simp) hlt
              | [x], _, hlt, _ => exact absurd (by simp) hlt
              | y :: x :: st, hst, _, hw =>
                obtain ⟨E, q1, q2, q3⟩ := ih r (.bin o.code x y :: st) (by omega) (fun z hz => by
                  rcases List.mem_cons.1 hz with rfl | hz
                  · exact ⟨g1, hst x (by simp), hst y (by simp)⟩
                  · exact hst z (by simp [hz])) (by
                    have : ((y :: x :: st).length : Int) + (1 - 2) = ((Tree.bin o.code x y :: st).length : Int) := by
                      simp only [List.length_cons]
                      omega
                    rw [this] at hw
                    exact hw) hmr
                refine ⟨E, q1, q2, ?_⟩
                rw [← q3]
                simp only [flats, Tree.flat, ← g2, List.append_assoc, List.singleton_append]
          · obtain ⟨hk, hc, ht, hs⟩ := lazy_skip hmo h1 h2 h3
            have e1 : needsR o = 1 := by simp [needsR, h1, h3]
            have e2 : lazyR o = true := by
              unfold lazyR
              rcases hk with hk | hk <;> simp [hk]
            rw [e1, e2] at hw
            split at hw
            · cases hw
            · rename_i hlt
              rw [if_pos rfl] at hw
              split at hw
              · cases hw
              · rename_i hsk
                split at hw
                · cases hw
                · rename_i hsub
                  rw [if_neg h1, if_neg h2, if_neg h3, if_neg (by omega), if_neg hsk]
                  cases st with
                  | nil => exact absurd (by simp) hlt
                  | cons x st =>
                    have hmt : ∀ z ∈ r.take o.skip.toNat, mayOpR z = true := fun z hz => hmr z (List.mem_of_mem_take hz)
                    obtain ⟨Y, y1, y2, y3⟩ := ih (r.take o.skip.toNat) [] (by simp; omega) (by simp) (by simpa using hsub) hmt
                    simp only [flats, List.nil_append, List.map_nil] at y2 y3
                    obtain ⟨b, hb⟩ : ∃ b : Bool, o.kind = if b = true then 5 else 4 := by
                      rcases hk with hk | hk
                      · exact ⟨false, hk⟩
                      · exact ⟨true, hk⟩
                    obtain ⟨E, q1, q2, q3⟩ := ih (r.drop o.skip.toNat) (.lz b x Y :: st) (by simp; omega) (fun z hz => by
                      rcases List.mem_cons.1 hz with rfl | hz
                      · exact ⟨hst x (by simp), y1⟩
                      · exact hst z (by simp [hz])) (by
                        have : ((x :: st).length : Int) + (1 - 1) = ((Tree.lz b x Y :: st).length : Int) := by simp
                        rw [this] at hw
                        exact hw) (fun z hz => hmr z (List.mem_of_mem_drop hz))
                    refine ⟨E, q1, ?_, ?_⟩
                    · rw [y2]
                      simp only [List.map_cons, Tree.sd] at q2 ⊢
                      have : (if o.kind = 5 then ([32, 124, 124, 32] : S) else [32, 38, 38, 32]) = lzS b := by
                        rw [hb]
                        cases b <;> rfl
                      rw [this]
                      exact q2
                    · rw [← q3]
                      have ho : o = ⟨if b = true then 5 else 4, tz, 0, (Y.flat.length : Int)⟩ := by
                        obtain ⟨k, t, c, s⟩ := o
                        simp only at hb hc ht hs hsk y3 ⊢
                        have : s = (Y.flat.length : Int) := by
                          rw [← y3, List.length_take]
                          omega
                        rw [hb, hc, ht, this]
                        rfl
                      simp only [flats, Tree.flat, ← ho, List.append_assoc, List.cons_append]
                      rw [← y3, List.take_append_drop]
/-- What may be has a tree. -/
theorem may_tree {l : List OpT} (h : mayE l = true) : ∃ E : Tree, E.good ∧ opsGo leafR l [] = some [E.sd] ∧ l = E.flat := by
  unfold mayE at h
  split at h
  · have := tree _ l [] (Nat.lt_succ_self _) (by simp) (by simpa using h) (whole_ops _ l 0 (Nat.lt_succ_self _) h)
    simpa [flats] using this
  · cases h
end Go.Vm

namespace Go.Vm
open Go Go.Proofs
theorem span {p : UInt8 → Bool} : ∀ {s s' r r' : S}, (∀ c ∈ s, p c = true) → (∀ c ∈ s', p c = true) → (∀ c, r.head? = some c → p c = false) → (∀ c, r'.head? = some c → p c = false) → s ++ r = s' ++ r' → s = s' ∧ r = r'
  | [], [], r, r', _, _, _, _, h => ⟨rfl, h⟩
  | [], c :: s', r, r', _, h', hr, _, h => by
    have := hr c (by rw [show r = c :: (s' ++ r') from h]; rfl)
    rw [h' c (by simp)] at this
    cases this
  | c :: s, [], r, r', hs, _, _, hr', h => by
    have := hr' c (by rw [show r' = c :: (s ++ r) from h.symm]; rfl)
    rw [hs c (by simp)] at this
    cases this
  | c :: s, d :: s', r, r', hs, hs', hr, hr', h => by
    simp only [List.cons_append, List.cons.injEq] at h
    obtain ⟨rfl, h⟩ := h
    obtain ⟨h1, h2⟩ := span (fun x hx => hs x (List.mem_cons_of_mem _ hx)) (fun x hx => hs' x (List.mem_cons_of_mem _ hx)) hr hr' h
    exact ⟨by rw [h1], h2⟩
/-- Bytes that stand behind a term. -/
def delim (c : UInt8) : Bool := c == 41 || c == 46 || c == 32 || c == 44 || c == 125
def Dl (r : S) : Prop := ∀ c, r.head? = some c → delim c = true
theorem Dl.out {r : S} (h : Dl r) {p : UInt8 → Bool} (hp : ∀ c, delim c = true → p c = false) : ∀ c, r.head? = some c → p c = false := fun c hc => hp c (h c hc)
theorem all256 {p : UInt8 → Bool} (h : (List.range 256).all (fun n => p (UInt8.ofNat n)) = true) (c : UInt8) : p c = true := by
  have := List.all_eq_true.1 h c.toNat (List.mem_range.2 c.toNat_lt)
  simpa using this
/-! Numbers -/
def isDig (c : UInt8) : Bool := decide (48 ≤ c.toNat) && decide (c.toNat ≤ 57)
def decVal (l : S) : Nat := l.foldl (fun a c => 10 * a + (c.toNat - 48)) 0
theorem decVal_snoc (l : S) (c : UInt8) : decVal (l ++ [c]) = 10 * decVal l + (c.toNat - 48) := by simp [decVal]
theorem decVal_zeros (k : Nat) (l : S) : decVal (List.replicate k 48 ++ l) = decVal l := by
  induction k with
  | zero => rfl
  | succ k ih =>
    rw [List.replicate_succ, List.cons_append]
    simpa [decVal] using ih
theorem dig_ok (u : Nat) (h : u < 10) : (UInt8.ofNat (48 + u)).toNat = 48 + u := by
  simp
  omega
theorem decVal_digits (u : Nat) : decVal (Lib.decDigits u) = u := by
  induction u using Nat.strongRecOn with
  | _ u ih =>
    rw [Lib.decDigits]
    split
    · rename_i h
      simp only [decVal, List.foldl_cons, List.foldl_nil, dig_ok u h]
      omega
    · rw [decVal_snoc, ih (u / 10) (by omega), dig_ok _ (by omega)]
      omega
theorem digits_dig (u : Nat) : ∀ c ∈ Lib.decDigits u, isDig c = true := by
  induction u using Nat.strongRecOn with
  | _ u ih =>
    rw [Lib.decDigits]
    split
    · rename_i h
      intro c hc
      rw [List.mem_singleton] at hc
      subst hc
      simp only [isDig, dig_ok u h]
      simp
      omega
    · intro c hc
      rcases List.mem_append.1 hc with hc | hc
      · exact ih _ (by omega) c hc
      · rw [List.mem_singleton] at hc
        subst hc
        simp only [isDig, dig_ok _ (show u % 10 < 10 by omega)]
        simp
        omega
theorem digits_ne (u : Nat) : Lib.decDigits u ≠ [] := by
  rw [Lib.decDigits]
  split <;> simp
theorem itoa_pos {n : Int} (h : 0 ≤ n) : Lib.itoa n = Lib.decDigits n.toNat := by unfold Lib.itoa; rw [if_neg (by omega)]
theorem itoa_neg {n : Int} (h : n < 0) : Lib.itoa n = 45 :: Lib.decDigits n.natAbs := by unfold Lib.itoa; rw [if_pos h]
theorem pad_dig {n : Int} (h : 0 ≤ n) (d : Nat) : ∀ c ∈ padR n d, isDig c = true := by
  intro c hc
  unfold padR at hc
  rw [itoa_pos h] at hc
  rcases List.mem_append.1 hc with hc | hc
  · rw [List.eq_of_mem_replicate hc]
    rfl
  · exact digits_dig _ c hc
theorem pad_val {n : Int} (h : 0 ≤ n) (d : Nat) : decVal (padR n d) = n.toNat := by
  unfold padR
  rw [itoa_pos h, decVal_zeros, decVal_digits]
theorem pad_inj {n m : Int} (hn : 0 ≤ n) (hm : 0 ≤ m) {d : Nat} (h : padR n d = padR m d) : n = m := by
  have h1 := pad_val hn d
  rw [h, pad_val hm d] at h1
  omega
theorem digits_inj {u v : Nat} (h : Lib.decDigits u = Lib.decDigits v) : u = v := by
  have h1 := decVal_digits u
  rw [h, decVal_digits v] at h1
  exact h1.symm
theorem pad_ne {n : Int} (h : 0 ≤ n) (d : Nat) : padR n d ≠ [] := by
  unfold padR
  rw [itoa_pos h]
  have := digits_ne n.toNat
  simp [this]
/-- A padded number, then a byte that is no digit. -/
theorem pad_span {n m : Int} (hn : 0 ≤ n) (hm : 0 ≤ m) {d : Nat} {x : UInt8} (hx : isDig x = false) {r r' : S} (h : padR n d ++ x :: r = padR m d ++ x :: r') : n = m ∧ r = r' := by
  obtain ⟨h1, h2⟩ := span (pad_dig hn d) (pad_dig hm d) (fun c hc => by cases hc; exact hx) (fun c hc => by cases hc; exact hx) h
  exact ⟨pad_inj hn hm h1, (List.cons.inj h2).2⟩
theorem dateS_eq {n : Int} (h0 : 0 ≤ n) (h1 : n ≤ 253402300799) (r : S) : dateS n ++ r = padR (yearOf n) 4 ++ 45 :: (padR (monthOf n).2 2 ++ 45 :: (padR ((monthOf n).1 + 1) 2 ++ 84 :: (padR (n % 86400 / 3600) 2 ++ 58 :: (padR (n % 3600 / 60) 2 ++ 58 :: (padR (n % 60) 2 ++ 90 :: r))))) := by
  unfold dateS
  rw [if_neg (by omega)]
  simp only [List.append_assoc, List.cons_append, List.nil_append]
theorem date_inj {n m : Int} (hn0 : 0 ≤ n) (hn1 : n ≤ 253402300799) (hm0 : 0 ≤ m) (hm1 : m ≤ 253402300799) {r r' : S} (h : dateS n ++ r = dateS m ++ r') : n = m ∧ r = r' := by
  rw [dateS_eq hn0 hn1, dateS_eq hm0 hm1] at h
  obtain ⟨a0, a9, l, k, hml, k1, k12, l0, l1, hsum⟩ := date_ok hn0 hn1
  obtain ⟨b0, b9, l', k', hml', k1', k12', l0', l1', hsum'⟩ := date_ok hm0 hm1
  rw [hml, hml'] at h
  obtain ⟨e1, h⟩ := pad_span a0 b0 rfl h
  obtain ⟨e2, h⟩ := pad_span (by omega) (by omega) rfl h
  obtain ⟨e3, h⟩ := pad_span (by omega) (by omega) rfl h
  obtain ⟨e4, h⟩ := pad_span (by omega) (by omega) rfl h
  obtain ⟨e5, h⟩ := pad_span (by omega) (by omega) rfl h
  obtain ⟨e6, h⟩ := pad_span (by omega) (by omega) rfl h
  refine ⟨?_, h⟩
  obtain rfl : k = k' := by omega
  rw [e1] at hsum
  have hd : dayOf n = dayOf m := by omega
  unfold dayOf at hd
  omega
/-! Texts -/
theorem quoteC_free : ((List.range 256).all fun a => (List.range 256).all fun b => !(quoteC (UInt8.ofNat a)).isPrefixOf (quoteC (UInt8.ofNat b)) || a == b) = true := by decide +kernel
theorem quoteC_pre {a b : UInt8} (h : quoteC a <+: quoteC b) : a = b := by
  have h1 := List.all_eq_true.1 quoteC_free a.toNat (List.mem_range.2 a.toNat_lt)
  have h2 := List.all_eq_true.1 h1 b.toNat (List.mem_range.2 b.toNat_lt)
  simp only [UInt8.ofNat_toNat, Bool.or_eq_true, Bool.not_eq_true', beq_iff_eq] at h2
  rcases h2 with h2 | h2
  · rw [← List.isPrefixOf_iff_prefix] at h
    rw [h] at h2
    cases h2
  · exact UInt8.toNat_inj.1 h2
theorem append_pre {a b x y : S} (h : a ++ x = b ++ y) : a <+: b ∨ b <+: a := by
  rcases List.append_eq_append_iff.1 h with ⟨c, h1, _⟩ | ⟨c, h1, _⟩
  · exact .inl ⟨c, h1.symm⟩
  · exact .inr ⟨c, h1.symm⟩
theorem quoteC_inj {a b : UInt8} {x y : S} (h : quoteC a ++ x = quoteC b ++ y) : a = b ∧ x = y := by
  have hab : a = b := by
    rcases append_pre h with h | h
    · exact quoteC_pre h
    · exact (quoteC_pre h).symm
  subst hab
  exact ⟨rfl, List.append_cancel_left h⟩
theorem quoteC_head : ((List.range 256).all fun a => (quoteC (UInt8.ofNat a)).head? != some 34 && !(quoteC (UInt8.ofNat a)).isEmpty) = true := by decide +kernel
theorem quoteC_34 (c : UInt8) {x y : S} (h : quoteC c ++ x = 34 :: y) : False := by
  have := List.all_eq_true.1 quoteC_head c.toNat (List.mem_range.2 c.toNat_lt)
  simp only [UInt8.ofNat_toNat, Bool.and_eq_true, bne_iff_ne, ne_eq, Bool.not_eq_true', List.isEmpty_eq_false_iff] at this
  obtain ⟨d, r, hd⟩ := List.exists_cons_of_ne_nil this.2
  rw [hd] at h this
  simp only [List.cons_append, List.cons.injEq] at h
  exact this.1 (by rw [h.1]; rfl)
theorem quoteIn_inj : ∀ {s s' r r' : S}, quoteIn s ++ 34 :: r = quoteIn s' ++ 34 :: r' → s = s' ∧ r = r'
  | [], [], r, r', h => ⟨rfl, (List.cons.inj h).2⟩
  | [], c :: s', r, r', h => by
    simp only [quoteIn, List.flatMap_nil, List.nil_append, List.flatMap_cons, List.append_assoc] at h
    exact (quoteC_34 c h.symm).elim
  | c :: s, [], r, r', h => by
    simp only [quoteIn, List.flatMap_nil, List.nil_append, List.flatMap_cons, List.append_assoc] at h
    exact (quoteC_34 c h).elim
  | c :: s, d :: s', r, r', h => by
    simp only [quoteIn, List.flatMap_cons, List.append_assoc] at h
    obtain ⟨e, he⟩ := quoteC_inj h
    subst e
    obtain ⟨h1, h2⟩ := quoteIn_inj (s := s) (s' := s') he
    exact ⟨by rw [h1], h2⟩
theorem quote_inj {s s' r r' : S} (h : quoteS s ++ r = quoteS s' ++ r') : s = s' ∧ r = r' := by
  unfold quoteS at h
  simp only [List.cons_append, List.append_assoc, List.nil_append, List.cons.injEq, true_and] at h
  exact quoteIn_inj h
/-! Bytes -/
def isHex (c : UInt8) : Bool := isDig c || (decide (97 ≤ c.toNat) && decide (c.toNat ≤ 102))
theorem hexd_hex : ∀ n, n < 16 → isHex (hexd n) = true := by decide
theorem hexd_inj : ∀ n, n < 16 → ∀ m, m < 16 → hexd n = hexd m → n = m := by decide
theorem hexS_hex : ∀ (s : S), ∀ c ∈ hexS s, isHex c = true
  | [], c, h => by cases h
  | x :: r, c, h => by
    have := x.toNat_lt
    rcases List.mem_cons.1 h with rfl | h
    · exact hexd_hex _ (by omega)
    · rcases List.mem_cons.1 h with rfl | h
      · exact hexd_hex _ (by omega)
      · exact hexS_hex r c h
theorem hexS_inj : ∀ {s s' : S}, hexS s = hexS s' → s = s'
  | [], [], _ => rfl
  | [], _ :: _, h => by cases h
  | _ :: _, [], h => by cases h
  | x :: r, y :: q, h => by
    simp only [hexS, List.cons.injEq] at h
    have hx := x.toNat_lt
    have hy := y.toNat_lt
    have h1 := hexd_inj _ (by omega) _ (by omega) h.1
    have h2 := hexd_inj _ (by omega) _ (by omega) h.2.1
    rw [hexS_inj h.2.2, UInt8.toNat_inj.1 (by omega : x.toNat = y.toNat)]
/-! Terms -/
theorem flat_may {t : Tm} (h : mayFlat t = true) : t.l = [] ∧ ((t.kind = 1 ∧ nameR t.s = true ∧ t.n = 0) ∨ (t.kind = 2 ∧ t.s = []) ∨ (t.kind = 3 ∧ t.n = 0) ∨ (t.kind = 5 ∧ t.n = 0) ∨ (t.kind = 4 ∧ t.s = [] ∧ 0 ≤ t.n ∧ t.n ≤ 253402300799) ∨ (t.kind = 6 ∧ t.s = [] ∧ (t.n = 0 ∨ t.n = 1))) := by
  unfold mayFlat at h
  by_cases h1 : t.kind = 1
  · rw [if_pos h1] at h
    by_cases a : nameR t.s = true
    · by_cases b : t.n = 0
      · rw [if_pos a, if_pos b] at h
        exact ⟨by simpa using h, .inl ⟨h1, a, b⟩⟩
      · rw [if_pos a, if_neg b] at h; cases h
    · rw [if_neg a] at h; cases h
  · rw [if_neg h1] at h
    by_cases h2 : t.kind = 2
    · rw [if_pos h2] at h
      by_cases a : t.s = []
      · rw [if_pos a] at h
        exact ⟨by simpa using h, .inr (.inl ⟨h2, a⟩)⟩
      · rw [if_neg a] at h; cases h
    · rw [if_neg h2] at h
      by_cases h3 : t.kind = 3 ∨ t.kind = 5
      · rw [if_pos h3] at h
        by_cases a : (t.s.length : Int) ≤ 256
        · by_cases b : t.n = 0
          · rw [if_pos a, if_pos b] at h
            refine ⟨by simpa using h, ?_⟩
            rcases h3 with h3 | h3
            · exact .inr (.inr (.inl ⟨h3, b⟩))
            · exact .inr (.inr (.inr (.inl ⟨h3, b⟩)))
          · rw [if_pos a, if_neg b] at h; cases h
        · rw [if_neg a] at h; cases h
      · rw [if_neg h3] at h
        by_cases h4 : t.kind = 4
        · rw [if_pos h4] at h
          by_cases a : 0 ≤ t.n
          · by_cases b : t.n ≤ 253402300799
            · by_cases c : t.s = []
              · rw [if_pos a, if_pos b, if_pos c] at h
                exact ⟨by simpa using h, .inr (.inr (.inr (.inr (.inl ⟨h4, c, a, b⟩))))⟩
              · rw [if_pos a, if_pos b, if_neg c] at h; cases h
            · rw [if_pos a, if_neg b] at h; cases h
          · rw [if_neg a] at h; cases h
        · rw [if_neg h4] at h
          by_cases h6 : t.kind = 6
          · rw [if_pos h6] at h
            by_cases a : t.n = 0 ∨ t.n = 1
            · by_cases c : t.s = []
              · rw [if_pos a, if_pos c] at h
                exact ⟨by simpa using h, .inr (.inr (.inr (.inr (.inr ⟨h6, c, a⟩))))⟩
              · rw [if_pos a, if_neg c] at h; cases h
            · rw [if_neg a] at h; cases h
          · rw [if_neg h6] at h; cases h
theorem tm_eq {t u : Tm} (h1 : t.kind = u.kind) (h2 : t.n = u.n) (h3 : t.s = u.s) (h4 : t.l = u.l) : t = u := by
  cases t; cases u
  simp only [Tm.kind, Tm.n, Tm.s, Tm.l] at h1 h2 h3 h4
  subst h1 h2 h3 h4
  rfl
theorem name_inner {s : S} (h : nameR s = true) : ∀ c ∈ s, innerB (c.toNat : Int) = true := fun c hc => List.all_eq_true.1 ((nameR_iff s).1 h).2.2.2.2 c hc
theorem delim_inner : ∀ c, delim c = true → innerB (c.toNat : Int) = false := by
  intro c h
  have : ∀ n : Fin 256, delim (UInt8.ofNat n.val) = true → innerB (n.val : Int) = false := by decide +kernel
  exact this ⟨c.toNat, c.toNat_lt⟩ (by simpa using h)
theorem delim_dig : ∀ c, delim c = true → isDig c = false := by
  intro c h
  have : ∀ n : Fin 256, delim (UInt8.ofNat n.val) = true → isDig (UInt8.ofNat n.val) = false := by decide +kernel
  have := this ⟨c.toNat, c.toNat_lt⟩ (by simpa using h)
  simpa using this
theorem delim_hex : ∀ c, delim c = true → isHex c = false := by
  intro c h
  have : ∀ n : Fin 256, delim (UInt8.ofNat n.val) = true → isHex (UInt8.ofNat n.val) = false := by decide +kernel
  have := this ⟨c.toNat, c.toNat_lt⟩ (by simpa using h)
  simpa using this
/-- By which byte a term begins: its sort. 0: a variable, 1: a number, a date, 2: a number below 0, 3: a text, 5: bytes, 6: true or false, 7: a set. -/
def sort (c : UInt8) : Nat := if c = 36 then 0 else if isDig c = true then 1 else if c = 45 then 2 else if c = 34 then 3 else if c = 104 then 5 else if c = 116 ∨ c = 102 then 6 else if c = 123 then 7 else 8
def sortT (t : Tm) : Nat := if t.kind = 1 then 0 else if t.kind = 2 then (if t.n < 0 then 2 else 1) else if t.kind = 4 then 1 else if t.kind = 3 then 3 else if t.kind = 5 then 5 else if t.kind = 6 then 6 else 7
theorem sort_dig {c : UInt8} (h : isDig c = true) : sort c = 1 := by
  unfold sort
  rw [if_neg (by rintro rfl; cases h), if_pos h]
theorem wr1_head {t : Tm} (h : mayFlat t = true) : ∃ c r, wr1 t = c :: r ∧ sort c = sortT t := by
  obtain ⟨_, h⟩ := flat_may h
  unfold wr1 sortT
  rcases h with h | h | h | h | h | h
  · rw [if_pos h.1, if_pos h.1]
    exact ⟨_, _, rfl, rfl⟩
  · rw [if_neg (by omega), if_pos h.1, if_neg (by omega), if_pos h.1]
    by_cases hn : t.n < 0
    · rw [if_pos hn, itoa_neg hn]
      exact ⟨_, _, rfl, rfl⟩
    · rw [if_neg hn, itoa_pos (by omega)]
      obtain ⟨c, r, hc⟩ := List.exists_cons_of_ne_nil (digits_ne t.n.toNat)
      exact ⟨c, r, hc, sort_dig (digits_dig t.n.toNat c (by rw [hc]; simp))⟩
  · rw [if_neg (by omega), if_neg (by omega), if_pos h.1, if_neg (by omega), if_neg (by omega), if_neg (by omega), if_pos h.1]
    exact ⟨_, _, rfl, rfl⟩
  · rw [if_neg (by omega), if_neg (by omega), if_neg (by omega), if_neg (by omega), if_pos h.1, if_neg (by omega), if_neg (by omega), if_neg (by omega), if_neg (by omega), if_pos h.1]
    exact ⟨_, _, rfl, rfl⟩
  · rw [if_neg (by omega), if_neg (by omega), if_neg (by omega), if_pos h.1, if_neg (by omega), if_neg (by omega), if_pos h.1]
    have := dateS_eq h.2.2.1 h.2.2.2 []
    rw [List.append_nil] at this
    obtain ⟨a0, _⟩ := date_ok h.2.2.1 h.2.2.2
    obtain ⟨c, r, hc⟩ := List.exists_cons_of_ne_nil (pad_ne a0 4)
    rw [this, hc]
    exact ⟨c, _, rfl, sort_dig (pad_dig a0 4 c (by rw [hc]; simp))⟩
  · rw [if_neg (by omega), if_neg (by omega), if_neg (by omega), if_neg (by omega), if_neg (by omega), if_neg (by omega), if_neg (by omega), if_neg (by omega), if_neg (by omega), if_neg (by omega), if_pos h.1]
    unfold boolS
    split
    · exact ⟨_, _, rfl, by decide⟩
    · exact ⟨_, _, rfl, by decide⟩
theorem num_date {u : Nat} {n : Int} (h0 : 0 ≤ n) (h1 : n ≤ 253402300799) {r r' : S} (hr : Dl r) (h : Lib.decDigits u ++ r = dateS n ++ r') : False := by
  rw [dateS_eq h0 h1] at h
  obtain ⟨a0, _⟩ := date_ok h0 h1
  obtain ⟨_, h2⟩ := span (digits_dig u) (pad_dig a0 4) (hr.out delim_dig) (fun c hc => by cases hc; rfl) h
  have := hr 45 (by rw [h2]; rfl)
  cases this
theorem sort_kind {t u : Tm} (ht : 1 ≤ t.kind ∧ t.kind ≤ 6) (hu : 1 ≤ u.kind ∧ u.kind ≤ 6) (h : sortT t = sortT u) : t.kind = u.kind ∨ (t.kind = 2 ∧ u.kind = 4 ∧ 0 ≤ t.n) ∨ (t.kind = 4 ∧ u.kind = 2 ∧ 0 ≤ u.n) := by
  unfold sortT at h
  repeat' split at h
  all_goals omega
theorem kind_range {t : Tm} (h : mayFlat t = true) : 1 ≤ t.kind ∧ t.kind ≤ 6 := by
  obtain ⟨_, h⟩ := flat_may h
  omega
theorem itoa_inj {n m : Int} {r r' : S} (hr : Dl r) (hr' : Dl r') (h : Lib.itoa n ++ r = Lib.itoa m ++ r') : n = m ∧ r = r' := by
  by_cases hn : n < 0 <;> by_cases hm : m < 0
  · rw [itoa_neg hn, itoa_neg hm] at h
    simp only [List.cons_append, List.cons.injEq, true_and] at h
    obtain ⟨h1, h2⟩ := span (digits_dig _) (digits_dig _) (hr.out delim_dig) (hr'.out delim_dig) h
    have := digits_inj h1
    exact ⟨by omega, h2⟩
  · rw [itoa_neg hn, itoa_pos (by omega)] at h
    obtain ⟨c, q, hc⟩ := List.exists_cons_of_ne_nil (digits_ne m.toNat)
    have hd := digits_dig m.toNat c (by rw [hc]; simp)
    rw [hc] at h
    simp only [List.cons_append, List.cons.injEq] at h
    rw [← h.1] at hd
    cases hd
  · rw [itoa_pos (by omega), itoa_neg hm] at h
    obtain ⟨c, q, hc⟩ := List.exists_cons_of_ne_nil (digits_ne n.toNat)
    have hd := digits_dig n.toNat c (by rw [hc]; simp)
    rw [hc] at h
    simp only [List.cons_append, List.cons.injEq] at h
    rw [h.1] at hd
    cases hd
  · rw [itoa_pos (by omega), itoa_pos (by omega)] at h
    obtain ⟨h1, h2⟩ := span (digits_dig _) (digits_dig _) (hr.out delim_dig) (hr'.out delim_dig) h
    have := digits_inj h1
    exact ⟨by omega, h2⟩
theorem wr1_k1 {t : Tm} (h : t.kind = 1) : wr1 t = 36 :: t.s := by unfold wr1; rw [if_pos h]
theorem wr1_k2 {t : Tm} (h : t.kind = 2) : wr1 t = Lib.itoa t.n := by unfold wr1; rw [if_neg (by omega), if_pos h]
theorem wr1_k3 {t : Tm} (h : t.kind = 3) : wr1 t = quoteS t.s := by unfold wr1; rw [if_neg (by omega), if_neg (by omega), if_pos h]
theorem wr1_k4 {t : Tm} (h : t.kind = 4) : wr1 t = dateS t.n := by unfold wr1; rw [if_neg (by omega), if_neg (by omega), if_neg (by omega), if_pos h]
theorem wr1_k5 {t : Tm} (h : t.kind = 5) : wr1 t = [104, 101, 120, 58] ++ hexS t.s := by unfold wr1; rw [if_neg (by omega), if_neg (by omega), if_neg (by omega), if_neg (by omega), if_pos h]
theorem wr1_k6 {t : Tm} (h : t.kind = 6) : wr1 t = boolS (t.n == 1) := by unfold wr1; rw [if_neg (by omega), if_neg (by omega), if_neg (by omega), if_neg (by omega), if_neg (by omega)]
theorem wr1_inj {t u : Tm} (ht : mayFlat t = true) (hu : mayFlat u = true) {r r' : S} (hr : Dl r) (hr' : Dl r') (h : wr1 t ++ r = wr1 u ++ r') : t = u ∧ r = r' := by
  obtain ⟨c, q, hc, hs⟩ := wr1_head ht
  obtain ⟨c', q', hc', hs'⟩ := wr1_head hu
  have hsort : sortT t = sortT u := by
    rw [hc, hc'] at h
    simp only [List.cons_append, List.cons.injEq] at h
    rw [← hs, ← hs', h.1]
  have hk := sort_kind (kind_range ht) (kind_range hu) hsort
  obtain ⟨tl, ht⟩ := flat_may ht
  obtain ⟨ul, hu⟩ := flat_may hu
  have hl : t.l = u.l := by rw [tl, ul]
  rcases hk with hk | ⟨k1, k2, k3⟩ | ⟨k1, k2, k3⟩
  · have hr1 : t.kind = 1 ∨ t.kind = 2 ∨ t.kind = 3 ∨ t.kind = 4 ∨ t.kind = 5 ∨ t.kind = 6 := by omega
    rcases hr1 with k | k | k | k | k | k
    · rw [wr1_k1 k, wr1_k1 (hk ▸ k)] at h
      have ha : nameR t.s = true ∧ t.n = 0 := by
        rcases ht with a | a | a | a | a | a <;> first | exact a.2 | (exfalso; omega)
      have hb : nameR u.s = true ∧ u.n = 0 := by
        rcases hu with a | a | a | a | a | a <;> first | exact a.2 | (exfalso; omega)
      simp only [List.cons_append, List.cons.injEq, true_and] at h
      obtain ⟨h1, h2⟩ := span (p := fun c => innerB (c.toNat : Int)) (name_inner ha.1) (name_inner hb.1) (hr.out delim_inner) (hr'.out delim_inner) h
      exact ⟨tm_eq hk (by rw [ha.2, hb.2]) h1 hl, h2⟩
    · rw [wr1_k2 k, wr1_k2 (hk ▸ k)] at h
      have ha : t.s = [] := by
        rcases ht with a | a | a | a | a | a <;> first | exact a.2 | (exfalso; omega)
      have hb : u.s = [] := by
        rcases hu with a | a | a | a | a | a <;> first | exact a.2 | (exfalso; omega)
      obtain ⟨h1, h2⟩ := itoa_inj hr hr' h
      exact ⟨tm_eq hk h1 (by rw [ha, hb]) hl, h2⟩
    · rw [wr1_k3 k, wr1_k3 (hk ▸ k)] at h
      have ha : t.n = 0 := by omega
      have hb : u.n = 0 := by omega
      obtain ⟨h1, h2⟩ := quote_inj h
      exact ⟨tm_eq hk (by rw [ha, hb]) h1 hl, h2⟩
    · rw [wr1_k4 k, wr1_k4 (hk ▸ k)] at h
      have ha : t.s = [] ∧ 0 ≤ t.n ∧ t.n ≤ 253402300799 := by
        rcases ht with a | a | a | a | a | a <;> first | exact a.2 | (exfalso; omega)
      have hb : u.s = [] ∧ 0 ≤ u.n ∧ u.n ≤ 253402300799 := by
        rcases hu with a | a | a | a | a | a <;> first | exact a.2 | (exfalso; omega)
      obtain ⟨h1, h2⟩ := date_inj ha.2.1 ha.2.2 hb.2.1 hb.2.2 h
      exact ⟨tm_eq hk h1 (by rw [ha.1, hb.1]) hl, h2⟩
    · rw [wr1_k5 k, wr1_k5 (hk ▸ k)] at h
      have ha : t.n = 0 := by omega
      have hb : u.n = 0 := by omega
      rw [List.append_assoc, List.append_assoc] at h
      obtain ⟨h1, h2⟩ := span (hexS_hex _) (hexS_hex _) (hr.out delim_hex) (hr'.out delim_hex) (List.append_cancel_left h)
      exact ⟨tm_eq hk (by rw [ha, hb]) (hexS_inj h1) hl, h2⟩
    · rw [wr1_k6 k, wr1_k6 (hk ▸ k)] at h
      have ha : t.s = [] ∧ (t.n = 0 ∨ t.n = 1) := by
        rcases ht with a | a | a | a | a | a <;> first | exact a.2 | (exfalso; omega)
      have hb : u.s = [] ∧ (u.n = 0 ∨ u.n = 1) := by
        rcases hu with a | a | a | a | a | a <;> first | exact a.2 | (exfalso; omega)
      have key : ∀ b b' : Bool, boolS b ++ r = boolS b' ++ r' → b = b' ∧ r = r' := by
        intro b b' hb
        cases b <;> cases b' <;> simp [boolS] at hb ⊢
        · exact hb
        · exact hb
      obtain ⟨h1, h2⟩ := key _ _ h
      refine ⟨tm_eq hk ?_ (by rw [ha.1, hb.1]) hl, h2⟩
      rcases ha.2 with a | a <;> rcases hb.2 with b | b <;> rw [a, b] at h1 ⊢ <;> cases h1
  · rw [wr1_k2 k1, wr1_k4 k2, itoa_pos k3] at h
    have hb : 0 ≤ u.n ∧ u.n ≤ 253402300799 := by omega
    exact (num_date hb.1 hb.2 hr h).elim
  · rw [wr1_k4 k1, wr1_k2 k2, itoa_pos k3] at h
    have hb : 0 ≤ t.n ∧ t.n ≤ 253402300799 := by omega
    exact (num_date hb.1 hb.2 hr' h.symm).elim
end Go.Vm

namespace Go.Vm
open Go Go.Proofs
theorem set_flats (k : Int) : ∀ (l : List Tm) (p : Option Tm), setOk k p l = true → ∀ x ∈ l, mayFlat x = true
  | [], _, _, x, hx => by cases hx
  | y :: r, p, h, x, hx => by
    simp only [setOk] at h
    split at h
    · cases h
    · split at h
      · cases h
      · split at h
        · cases h
        · rename_i h3
          have hy : mayFlat y = true := by simpa using h3
          have hr : ∃ p', setOk k p' r = true := by
            split at h
            · exact ⟨_, h⟩
            · split at h
              · cases h
              · split at h
                · cases h
                · exact ⟨_, h⟩
          obtain ⟨p', hr⟩ := hr
          rcases List.mem_cons.1 hx with rfl | hx
          · exact hy
          · exact set_flats k r p' hr x hx
theorem set_may {t : Tm} (h7 : t.kind = 7) (h : mayR t = true) : t.n = 0 ∧ t.s = [] ∧ t.l.length ≤ 16 ∧ ∀ x ∈ t.l, mayFlat x = true := by
  unfold mayR maySetR at h
  rw [if_pos h7] at h
  split at h
  · cases h
  · split at h
    · cases h
    · split at h
      · cases h
      · rename_i a b c
        exact ⟨by simpa using a, by simpa using b, by omega, set_flats _ _ _ h⟩
theorem flat_may' {t : Tm} (h7 : t.kind ≠ 7) (h : mayR t = true) : mayFlat t = true := by
  unfold mayR at h
  rwa [if_neg h7] at h
theorem may_kind {t : Tm} (h : mayR t = true) : 1 ≤ t.kind ∧ t.kind ≤ 7 := by
  by_cases h7 : t.kind = 7
  · omega
  · have := kind_range (flat_may' h7 h)
    omega
theorem dl44 (r : S) : Dl (44 :: r) := fun c hc => by cases hc; rfl
theorem dl125 (r : S) : Dl (125 :: r) := fun c hc => by cases hc; rfl
theorem dl41 (r : S) : Dl (41 :: r) := fun c hc => by cases hc; rfl
theorem join_next (x : Tm) (l : List Tm) (r : S) : ∃ q, joinS [44, 32] ((x :: l).map wr1) ++ 125 :: r = wr1 x ++ q ∧ Dl q ∧ ((l = [] ∧ q = 125 :: r) ∨ (l ≠ [] ∧ q = 44 :: 32 :: (joinS [44, 32] (l.map wr1) ++ 125 :: r))) := by
  cases l with
  | nil => exact ⟨125 :: r, by simp [joinS], dl125 r, .inl ⟨rfl, rfl⟩⟩
  | cons y l =>
    refine ⟨44 :: 32 :: (joinS [44, 32] ((y :: l).map wr1) ++ 125 :: r), ?_, dl44 _, .inr ⟨by simp, rfl⟩⟩
    simp [joinS]
theorem no125 {x : Tm} (h : mayFlat x = true) {q r : S} (he : 125 :: r = wr1 x ++ q) : False := by
  obtain ⟨c, p, hc, hs⟩ := wr1_head h
  rw [hc] at he
  simp only [List.cons_append, List.cons.injEq] at he
  rw [← he.1] at hs
  have h1 : sort 125 = 8 := by decide
  rw [h1] at hs
  have := kind_range h
  unfold sortT at hs
  repeat' split at hs
  all_goals omega
theorem join_inj : ∀ {l l' : List Tm} {r r' : S}, (∀ x ∈ l, mayFlat x = true) → (∀ x ∈ l', mayFlat x = true) → joinS [44, 32] (l.map wr1) ++ 125 :: r = joinS [44, 32] (l'.map wr1) ++ 125 :: r' → l = l' ∧ r = r'
  | [], [], r, r', _, _, h => by
    simp [joinS] at h
    exact ⟨rfl, h⟩
  | [], y :: l', r, r', _, h', h => by
    obtain ⟨q, hq, _⟩ := join_next y l' r'
    rw [hq] at h
    exact (no125 (h' y (by simp)) h).elim
  | x :: l, [], r, r', h1, _, h => by
    obtain ⟨q, hq, _⟩ := join_next x l r
    rw [hq] at h
    exact (no125 (h1 x (by simp)) h.symm).elim
  | x :: l, y :: l', r, r', h1, h2, h => by
    obtain ⟨q, hq, dq, cq⟩ := join_next x l r
    obtain ⟨q', hq', dq', cq'⟩ := join_next y l' r'
    rw [hq, hq'] at h
    obtain ⟨e1, e2⟩ := wr1_inj (h1 x (by simp)) (h2 y (by simp)) dq dq' h
    subst e1
    rcases cq with ⟨a, b⟩ | ⟨a, b⟩ <;> rcases cq' with ⟨a', b'⟩ | ⟨a', b'⟩
    · rw [b, b'] at e2
      simp only [List.cons.injEq, true_and] at e2
      rw [a, a']
      exact ⟨rfl, e2⟩
    · rw [b, b'] at e2
      simp at e2
    · rw [b, b'] at e2
      simp at e2
    · rw [b, b'] at e2
      simp only [List.cons.injEq, true_and] at e2
      obtain ⟨g1, g2⟩ := join_inj (fun z hz => h1 z (List.mem_cons_of_mem _ hz)) (fun z hz => h2 z (List.mem_cons_of_mem _ hz)) e2
      exact ⟨by rw [g1], g2⟩
theorem wr_k7 {t : Tm} (h : t.kind = 7) (r : S) : wr t ++ r = 123 :: (joinS [44, 32] (t.l.map wr1) ++ 125 :: r) := by
  unfold wr
  rw [if_pos h]
  simp
theorem wr_flat {t : Tm} (h : t.kind ≠ 7) : wr t = wr1 t := if_neg h
theorem wr_head {t : Tm} (h : mayR t = true) : ∃ c r, wr t = c :: r ∧ sort c = sortT t := by
  by_cases h7 : t.kind = 7
  · have := wr_k7 h7 []
    rw [List.append_nil] at this
    refine ⟨_, _, this, ?_⟩
    unfold sortT
    rw [if_neg (by omega), if_neg (by omega), if_neg (by omega), if_neg (by omega), if_neg (by omega), if_neg (by omega)]
    decide
  · rw [wr_flat h7]
    exact wr1_head (flat_may' h7 h)
theorem wr_inj {t u : Tm} (ht : mayR t = true) (hu : mayR u = true) {r r' : S} (hr : Dl r) (hr' : Dl r') (h : wr t ++ r = wr u ++ r') : t = u ∧ r = r' := by
  obtain ⟨c, q, hc, hs⟩ := wr_head ht
  obtain ⟨c', q', hc', hs'⟩ := wr_head hu
  have hsort : sortT t = sortT u := by
    rw [hc, hc'] at h
    simp only [List.cons_append, List.cons.injEq] at h
    rw [← hs, ← hs', h.1]
  by_cases h7 : t.kind = 7
  · have h7' : u.kind = 7 := by
      have := may_kind hu
      unfold sortT at hsort
      rw [if_neg (by omega), if_neg (by omega), if_neg (by omega), if_neg (by omega), if_neg (by omega), if_neg (by omega)] at hsort
      repeat' split at hsort
      all_goals omega
    obtain ⟨a1, a2, _, a3⟩ := set_may h7 ht
    obtain ⟨b1, b2, _, b3⟩ := set_may h7' hu
    rw [wr_k7 h7, wr_k7 h7'] at h
    simp only [List.cons.injEq, true_and] at h
    obtain ⟨e1, e2⟩ := join_inj a3 b3 h
    exact ⟨tm_eq (by omega) (by omega) (by rw [a2, b2]) e1, e2⟩
  · have h7' : u.kind ≠ 7 := by
      intro h7'
      have := may_kind ht
      unfold sortT at hsort
      repeat' split at hsort
      all_goals omega
    rw [wr_flat h7, wr_flat h7'] at h
    exact wr1_inj (flat_may' h7 ht) (flat_may' h7' hu) hr hr' h
end Go.Vm

namespace Go.Vm
open Go Go.Proofs
def neg (t : Tm) : Prop := t.kind = 2 ∧ t.n < 0
instance (t : Tm) : Decidable (neg t) := inferInstanceAs (Decidable (_ ∧ _))
theorem leaf_text (t : Tm) : (leafR t).text = if neg t then 40 :: wr t ++ [41] else wr t := rfl
theorem leaf_s (t : Tm) : (leafR t).s = (leafR t).text := rfl
def isOp : Tree → Prop
  | .leaf _ => False
  | _ => True
theorem op_text {E : Tree} (h : isOp E) : E.sd.text = 40 :: E.sd.s ++ [41] := by
  cases E with
  | leaf t => exact h.elim
  | un c x => rfl
  | bin c x y =>
    simp only [Tree.sd, Side.text, binaryR]
    split <;> rfl
  | lz b x y => rfl
theorem op_num {E : Tree} (h : isOp E) : E.sd.num = false := by
  cases E with
  | leaf t => exact h.elim
  | un c x => rfl
  | bin c x y =>
    simp only [Tree.sd, binaryR]
    split <;> rfl
  | lz b x y => rfl
theorem sortT_ne8 {t : Tm} : sortT t ≠ 8 := by
  unfold sortT
  repeat' split
  all_goals decide
theorem sortT_2 {t : Tm} (h : sortT t = 2) : neg t := by
  unfold sortT at h
  by_cases h1 : t.kind = 1
  · rw [if_pos h1] at h; cases h
  · rw [if_neg h1] at h
    by_cases h2 : t.kind = 2
    · rw [if_pos h2] at h
      by_cases h3 : t.n < 0
      · exact ⟨h2, h3⟩
      · rw [if_neg h3] at h; cases h
    · rw [if_neg h2] at h
      repeat' split at h
      all_goals cases h
theorem leaf_head {t : Tm} (h : mayR t = true) : ∃ c q, (leafR t).text = c :: q ∧ ((c = 40 ∧ neg t) ∨ (¬ neg t ∧ sort c = sortT t)) := by
  rw [leaf_text]
  by_cases hn : neg t
  · rw [if_pos hn]
    exact ⟨_, _, rfl, .inl ⟨rfl, hn⟩⟩
  · rw [if_neg hn]
    obtain ⟨c, q, h1, h2⟩ := wr_head h
    exact ⟨c, q, h1, .inr ⟨hn, h2⟩⟩
/-- How the text of a part begins: not by a sign. -/
theorem text_head {E : Tree} (h : E.good) : ∃ c q, E.sd.text = c :: q ∧ c ≠ 33 ∧ c ≠ 45 ∧ (isOp E → c = 40) := by
  by_cases ho : isOp E
  · rw [op_text ho]
    exact ⟨_, _, rfl, by decide, by decide, fun _ => rfl⟩
  · cases E with
    | leaf t =>
      obtain ⟨c, q, h1, h2⟩ := leaf_head h
      refine ⟨c, q, h1, ?_, ?_, fun h => h.elim⟩
      · rintro rfl
        rcases h2 with ⟨h2, _⟩ | ⟨_, h2⟩
        · cases h2
        · exact sortT_ne8 h2.symm
      · rintro rfl
        rcases h2 with ⟨h2, _⟩ | ⟨h3, h2⟩
        · cases h2
        · exact h3 (sortT_2 h2.symm)
    | _ => exact absurd trivial ho
theorem leaf_leaf {t u : Tm} (ht : mayR t = true) (hu : mayR u = true) {r r' : S} (hr : Dl r) (hr' : Dl r') (h : (leafR t).text ++ r = (leafR u).text ++ r') : t = u ∧ r = r' := by
  rw [leaf_text, leaf_text] at h
  by_cases a : neg t <;> by_cases b : neg u
  · rw [if_pos a, if_pos b] at h
    simp only [List.cons_append, List.append_assoc, List.nil_append, List.cons.injEq, true_and] at h
    obtain ⟨h1, h2⟩ := wr_inj ht hu (dl41 r) (dl41 r') h
    exact ⟨h1, (List.cons.inj h2).2⟩
  · rw [if_pos a, if_neg b] at h
    obtain ⟨c, q, h1, h2⟩ := wr_head hu
    rw [h1] at h
    simp only [List.cons_append, List.cons.injEq] at h
    rw [← h.1] at h2
    exact (sortT_ne8 h2.symm).elim
  · rw [if_neg a, if_pos b] at h
    obtain ⟨c, q, h1, h2⟩ := wr_head ht
    rw [h1] at h
    simp only [List.cons_append, List.cons.injEq] at h
    rw [h.1] at h2
    exact (sortT_ne8 h2.symm).elim
  · rw [if_neg a, if_neg b] at h
    exact wr_inj ht hu hr hr' h
/-! Operations that begin with a part -/
def mkT (k : Nat) (x y : Tree) : Tree := if k = 0 then .un 3 x else if k = 20 then .lz false x y else if k = 21 then .lz true x y else .bin k x y
def keyOf (k : Nat) : S := if k = 0 then [46, 108, 101, 110, 103, 116, 104, 40, 41] else if k = 20 then lzS false else if k = 21 then lzS true else if 11 ≤ k ∧ k ≤ 16 then 46 :: signR k ++ [40] else 32 :: signR k ++ [32]
def postOf (k : Nat) (y : Tree) : S := if k = 0 then [] else if 11 ≤ k ∧ k ≤ 16 then y.sd.s ++ [41] else y.sd.text
theorem key_free : ∀ i, i < 22 → ∀ j, j < 22 → (keyOf i).isPrefixOf (keyOf j) = true → i = j := by decide +kernel
theorem key_head : ∀ i, i < 22 → (keyOf i).head? = some 46 ∨ (keyOf i).head? = some 32 := by decide +kernel
theorem mk_s {k : Nat} (hk : k < 22) (x y : Tree) : (mkT k x y).sd.s = x.sd.text ++ (keyOf k ++ postOf k y) := by
  unfold mkT keyOf postOf
  by_cases h0 : k = 0
  · rw [if_pos h0, if_pos h0, if_pos h0]
    simp [Tree.sd, unaryR]
  · by_cases h20 : k = 20
    · rw [if_neg h0, if_pos h20, if_neg h0, if_pos h20, if_neg h0, if_neg (by omega)]
      simp [Tree.sd]
    · by_cases h21 : k = 21
      · rw [if_neg h0, if_neg h20, if_pos h21, if_neg h0, if_neg h20, if_pos h21, if_neg h0, if_neg (by omega)]
        simp [Tree.sd]
      · by_cases hm : 11 ≤ k ∧ k ≤ 16
        · rw [if_neg h0, if_neg h20, if_neg h21, if_neg h0, if_neg h20, if_neg h21, if_pos hm, if_neg h0, if_pos hm]
          have : (11 : Int) ≤ (k : Int) ∧ (k : Int) ≤ 16 := by omega
          simp only [Tree.sd, binaryR, if_pos this]
          simp
        · rw [if_neg h0, if_neg h20, if_neg h21, if_neg h0, if_neg h20, if_neg h21, if_neg hm, if_neg h0, if_neg hm]
          have : ¬ ((11 : Int) ≤ (k : Int) ∧ (k : Int) ≤ 16) := by omega
          simp only [Tree.sd, binaryR, if_neg this]
          simp
theorem mk_op (k : Nat) (x y : Tree) : isOp (mkT k x y) := by
  unfold mkT
  repeat' split
  all_goals trivial
def Tree.size : Tree → Nat
  | .leaf _ => 1
  | .un _ x => x.size + 1
  | .bin _ x y => x.size + y.size + 1
  | .lz _ x y => x.size + y.size + 1
/-- Each tree: a term, 'not', minus, or one that begins with a part. -/
theorem tree_cases {E : Tree} (h : E.good) : (∃ t, E = .leaf t ∧ mayR t = true) ∨ (∃ x, E = .un 1 x ∧ x.good) ∨ (∃ x, E = .un 2 x ∧ x.good) ∨ ∃ k x y, k < 22 ∧ E = mkT k x y ∧ x.good ∧ y.good ∧ x.size < E.size ∧ (k ≠ 0 → y.size < E.size) := by
  cases E with
  | leaf t => exact .inl ⟨t, rfl, h⟩
  | un c x =>
    obtain ⟨⟨h1, h2⟩, h3⟩ := h
    have : c = 1 ∨ c = 2 ∨ c = 3 := by omega
    rcases this with rfl | rfl | rfl
    · exact .inr (.inl ⟨x, rfl, h3⟩)
    · exact .inr (.inr (.inl ⟨x, rfl, h3⟩))
    · exact .inr (.inr (.inr ⟨0, x, x, by omega, rfl, h3, h3, by simp [Tree.size], fun h => absurd rfl h⟩))
  | bin c x y =>
    obtain ⟨⟨h1, h2⟩, h3, h4⟩ := h
    refine .inr (.inr (.inr ⟨c.toNat, x, y, by omega, ?_, h3, h4, by simp [Tree.size]; omega, fun _ => by simp [Tree.size]; omega⟩))
    unfold mkT
    rw [if_neg (by omega), if_neg (by omega), if_neg (by omega), show ((c.toNat : Nat) : Int) = c by omega]
  | lz b x y =>
    obtain ⟨h3, h4⟩ := h
    cases b with
    | false => exact .inr (.inr (.inr ⟨20, x, y, by omega, rfl, h3, h4, by simp [Tree.size]; omega, fun _ => by simp [Tree.size]; omega⟩))
    | true => exact .inr (.inr (.inr ⟨21, x, y, by omega, rfl, h3, h4, by simp [Tree.size]; omega, fun _ => by simp [Tree.size]; omega⟩))
theorem mk_inj {k : Nat} {x y z : Tree} (h : k ≠ 0 → y = z) : mkT k x y = mkT k x z := by
  unfold mkT
  by_cases h0 : k = 0
  · rw [if_pos h0, if_pos h0]
  · rw [h h0]
/-- Bytes that stand behind a side: none, or a bracket. -/
def D4 (r : S) : Prop := ∀ c, r.head? = some c → c = 41
theorem D4.dl {r : S} (h : D4 r) : Dl r := fun c hc => by rw [h c hc]; rfl
theorem d4_41 (r : S) : D4 (41 :: r) := fun c hc => by cases hc; rfl
theorem key_dl {k : Nat} (hk : k < 22) (q : S) : Dl (keyOf k ++ q) := fun c hc => by
  have h : (keyOf k ++ q).head? = (keyOf k).head? := by
    rcases key_head k hk with h | h <;> (obtain ⟨r, hr⟩ : ∃ r, keyOf k = _ :: r := List.head?_eq_some_iff.1 h; rw [hr]; rfl)
  rw [h] at hc
  rcases key_head k hk with h | h
  · rw [h] at hc; cases hc; rfl
  · rw [h] at hc; cases hc; rfl
theorem key_d4 {k : Nat} (hk : k < 22) {q r : S} (hr : D4 r) (h : r = keyOf k ++ q) : False := by
  have h1 : (keyOf k ++ q).head? = (keyOf k).head? := by
    rcases key_head k hk with h | h <;> (obtain ⟨r, hr⟩ : ∃ r, keyOf k = _ :: r := List.head?_eq_some_iff.1 h; rw [hr]; rfl)
  rw [← h] at h1
  rcases key_head k hk with h2 | h2
  · have := hr 46 (by rw [h1, h2]); cases this
  · have := hr 32 (by rw [h1, h2]); cases this
def AT (E : Tree) : Prop := ∀ E' : Tree, E'.good → ∀ r r' : S, Dl r → Dl r' → E.sd.text ++ r = E'.sd.text ++ r' → E = E' ∧ r = r'
def BT (E : Tree) : Prop := ∀ E' : Tree, E'.good → ∀ r r' : S, D4 r → D4 r' → E.sd.s ++ r = E'.sd.s ++ r' → E = E' ∧ r = r'
/-- A term is no operation in brackets. -/
theorem leaf_op {t : Tm} (ht : mayR t = true) {E : Tree} (hE : E.good) (ho : isOp E) {r r' : S} (hr : Dl r) (h : (leafR t).text ++ r = E.sd.text ++ r') : False := by
  rw [op_text ho] at h
  simp only [List.cons_append, List.append_assoc, List.nil_append] at h
  rw [leaf_text] at h
  by_cases hn : neg t
  · rw [if_pos hn] at h
    simp only [List.cons_append, List.append_assoc, List.nil_append, List.cons.injEq, true_and] at h
    have hw : wr t = 45 :: Lib.decDigits t.n.natAbs := by
      rw [wr_flat (by have := hn.1; omega), wr1_k2 hn.1, itoa_neg hn.2]
    rw [hw] at h
    obtain ⟨d, q, hd⟩ := List.exists_cons_of_ne_nil (digits_ne t.n.natAbs)
    have hdig := digits_dig t.n.natAbs d (by rw [hd]; simp)
    rcases tree_cases hE with ⟨u, rfl, _⟩ | ⟨x, rfl, hx⟩ | ⟨x, rfl, hx⟩ | ⟨k, x, y, hk, rfl, hx, hy, _⟩
    · exact ho
    · simp [Tree.sd, unaryR] at h
    · simp only [Tree.sd, unaryR, show ¬ ((2 : Int) = 3) by decide, show ¬ ((2 : Int) = 1) by decide, if_false] at h
      by_cases hnum : x.sd.num = true
      · rw [if_pos hnum, hd] at h
        simp only [List.cons_append, List.cons.injEq, true_and] at h
        rw [h.1] at hdig
        cases hdig
      · rw [if_neg hnum] at h
        simp only [List.cons_append, List.cons.injEq, true_and] at h
        by_cases hxo : isOp x
        · rw [op_text hxo, hd] at h
          simp only [List.cons_append, List.cons.injEq] at h
          rw [h.1] at hdig
          cases hdig
        cases x with
        | leaf u =>
          have hu : mayR u = true := hx
          by_cases hun : neg u
          · simp only [Tree.sd] at h
            rw [leaf_text, if_pos hun, hd] at h
            simp only [List.cons_append, List.cons.injEq] at h
            rw [h.1] at hdig
            cases hdig
          · simp only [Tree.sd] at h hnum
            rw [leaf_text, if_neg hun] at h
            obtain ⟨c, p, hc, hs⟩ := wr_head hu
            have h1 : sortT u = 1 := by
              have h' := h
              rw [hc, hd] at h'
              simp only [List.cons_append, List.cons.injEq] at h'
              rw [← hs, ← h'.1, sort_dig hdig]
            have h4 : u.kind = 4 := by
              unfold sortT at h1
              have hk2 : u.kind ≠ 2 := by
                intro hk2
                have : ¬ u.n < 0 := fun hlt => hun ⟨hk2, hlt⟩
                have : (leafR u).num = true := by simp [leafR, hk2]; omega
                exact hnum this
              rw [if_neg hk2] at h1
              repeat' split at h1
              all_goals first | assumption | (cases h1; done)
            have hb : 0 ≤ u.n ∧ u.n ≤ 253402300799 := by
              obtain ⟨_, hf⟩ := flat_may (flat_may' (by omega) hu)
              omega
            rw [wr_flat (by omega), wr1_k4 h4] at h
            exact num_date hb.1 hb.2 (dl41 r) h
        | _ => exact absurd trivial hxo
    · obtain ⟨c, p, hc, h33, h45, _⟩ := text_head hx
      rw [mk_s hk, hc] at h
      simp only [List.cons_append, List.cons.injEq] at h
      exact h45 h.1.symm
  · rw [if_neg hn] at h
    obtain ⟨c, p, hc, hs⟩ := wr_head ht
    rw [hc] at h
    simp only [List.cons_append, List.cons.injEq] at h
    rw [h.1] at hs
    exact sortT_ne8 hs.symm
theorem AT_leaf {t : Tm} (ht : mayR t = true) : AT (.leaf t) := fun E' hE' r r' hr hr' h => by
  cases E' with
  | leaf u =>
    obtain ⟨h1, h2⟩ := leaf_leaf ht hE' hr hr' h
    exact ⟨by rw [h1], h2⟩
  | un c x => exact (leaf_op ht hE' trivial hr h).elim
  | bin c x y => exact (leaf_op ht hE' trivial hr h).elim
  | lz b x y => exact (leaf_op ht hE' trivial hr h).elim
theorem neg_s (x : Tree) : (Tree.un 2 x).sd.s = if x.sd.num = true then 45 :: 40 :: x.sd.text ++ [41] else 45 :: x.sd.text := rfl
theorem not_s (x : Tree) : (Tree.un 1 x).sd.s = 33 :: x.sd.text := rfl
theorem num_leaf {x : Tree} (hx : x.good) (h : x.sd.num = true) : ∃ t, x = .leaf t ∧ mayR t = true ∧ ¬ neg t ∧ x.sd.s = wr t ∧ x.sd.text = wr t := by
  by_cases ho : isOp x
  · rw [op_num ho] at h; cases h
  · cases x with
    | leaf t =>
      have h2 : t.kind = 2 ∧ 0 ≤ t.n := by simpa [Tree.sd, leafR] using h
      have hn : ¬ neg t := fun hn => by have := hn.2; omega
      refine ⟨t, rfl, hx, hn, ?_, ?_⟩
      · show (leafR t).s = wr t
        rw [leaf_s, leaf_text, if_neg hn]
      · show (leafR t).text = wr t
        rw [leaf_text, if_neg hn]
    | _ => exact absurd trivial ho
/-- Minus before a number stands with brackets; before another part it stands without: the two are not alike. -/
theorem num_other {x y : Tree} (hx : x.good) (hy : y.good) (hnx : x.sd.num = true) (hny : y.sd.num ≠ true) (hB : BT x) {r r' : S} (h : 40 :: (x.sd.text ++ 41 :: r) = y.sd.text ++ r') : False := by
  obtain ⟨t, rfl, ht, hn, hs, htx⟩ := num_leaf hx hnx
  rw [htx] at h
  by_cases ho : isOp y
  · rw [op_text ho] at h
    simp only [List.cons_append, List.append_assoc, List.nil_append, List.cons.injEq, true_and] at h
    rw [← hs] at h
    obtain ⟨e, _⟩ := hB y hy _ _ (d4_41 r) (d4_41 r') h
    rw [← e] at ho
    exact ho
  · cases y with
    | leaf u =>
      have hu : mayR u = true := hy
      simp only [Tree.sd] at h
      rw [leaf_text] at h
      by_cases hun : neg u
      · rw [if_pos hun] at h
        simp only [List.cons_append, List.append_assoc, List.nil_append, List.cons.injEq, true_and] at h
        obtain ⟨e, _⟩ := wr_inj ht hu (dl41 r) (dl41 r') h
        rw [e] at hn
        exact hn hun
      · rw [if_neg hun] at h
        obtain ⟨c, p, hc, hsu⟩ := wr_head hu
        rw [hc] at h
        simp only [List.cons_append, List.cons.injEq] at h
        rw [← h.1] at hsu
        exact sortT_ne8 hsu.symm
    | _ => exact absurd trivial ho
theorem main : ∀ (n : Nat) (E : Tree), E.size < n → E.good → AT E ∧ BT E := by
  intro n
  induction n with
  | zero => exact fun E h => absurd h (Nat.not_lt_zero _)
  | succ n ih =>
    intro E hn hE
    have hB : BT E := by
      intro E' hE' r r' hr hr' h
      rcases tree_cases hE with ⟨t, rfl, ht⟩ | ⟨x, rfl, hx⟩ | ⟨x, rfl, hx⟩ | ⟨k, x, y, hk, rfl, hx, hy, sx, sy⟩
      · -- a term
        rcases tree_cases hE' with ⟨t', rfl, ht'⟩ | ⟨x', rfl, hx'⟩ | ⟨x', rfl, hx'⟩ | ⟨k', x', y', hk', rfl, hx', hy', _, _⟩
        · exact AT_leaf ht _ hE' r r' hr.dl hr'.dl h
        · obtain ⟨c, q, hc, h33, h45, _⟩ := text_head hE
          rw [show (Tree.leaf t).sd.s = (Tree.leaf t).sd.text from rfl, hc, not_s] at h
          simp only [List.cons_append, List.cons.injEq] at h
          exact (h33 h.1).elim
        · obtain ⟨c, q, hc, h33, h45, _⟩ := text_head hE
          rw [show (Tree.leaf t).sd.s = (Tree.leaf t).sd.text from rfl, hc, neg_s] at h
          split at h
          · simp only [List.cons_append, List.cons.injEq] at h
            exact (h45 h.1).elim
          · simp only [List.cons_append, List.cons.injEq] at h
            exact (h45 h.1).elim
        · rw [mk_s hk', show (Tree.leaf t).sd.s = (Tree.leaf t).sd.text from rfl, List.append_assoc, List.append_assoc] at h
          obtain ⟨_, e⟩ := AT_leaf ht _ hx' _ _ hr.dl (key_dl hk' _) h
          exact (key_d4 hk' hr e).elim
      · -- not
        have hAx := (ih x (by simp [Tree.size] at hn; omega) hx).1
        rw [not_s] at h
        rcases tree_cases hE' with ⟨t', rfl, ht'⟩ | ⟨x', rfl, hx'⟩ | ⟨x', rfl, hx'⟩ | ⟨k', x', y', hk', rfl, hx', hy', _, _⟩
        · obtain ⟨c, q, hc, h33, h45, _⟩ := text_head hE'
          rw [show (Tree.leaf t').sd.s = (Tree.leaf t').sd.text from rfl, hc] at h
          simp only [List.cons_append, List.cons.injEq] at h
          exact (h33 h.1.symm).elim
        · rw [not_s] at h
          simp only [List.cons_append, List.cons.injEq, true_and] at h
          obtain ⟨e1, e2⟩ := hAx _ hx' _ _ hr.dl hr'.dl h
          exact ⟨by rw [e1], e2⟩
        · rw [neg_s] at h
          split at h
          · simp at h
          · simp at h
        · obtain ⟨c, q, hc, h33, h45, _⟩ := text_head hx'
          rw [mk_s hk', hc] at h
          simp only [List.cons_append, List.cons.injEq] at h
          exact (h33 h.1.symm).elim
      · -- minus
        obtain ⟨hAx, hBx⟩ := ih x (by simp [Tree.size] at hn; omega) hx
        rw [neg_s] at h
        rcases tree_cases hE' with ⟨t', rfl, ht'⟩ | ⟨x', rfl, hx'⟩ | ⟨x', rfl, hx'⟩ | ⟨k', x', y', hk', rfl, hx', hy', _, _⟩
        · obtain ⟨c, q, hc, h33, h45, _⟩ := text_head hE'
          rw [show (Tree.leaf t').sd.s = (Tree.leaf t').sd.text from rfl, hc] at h
          split at h
          · simp only [List.cons_append, List.cons.injEq] at h
            exact (h45 h.1.symm).elim
          · simp only [List.cons_append, List.cons.injEq] at h
            exact (h45 h.1.symm).elim
        · rw [not_s] at h
          split at h
          · simp at h
          · simp at h
        · rw [neg_s] at h
          by_cases n1 : x.sd.num = true <;> by_cases n2 : x'.sd.num = true
          · rw [if_pos n1, if_pos n2] at h
            simp only [List.cons_append, List.append_assoc, List.nil_append, List.cons.injEq, true_and] at h
            obtain ⟨e1, e2⟩ := hAx _ hx' _ _ (dl41 r) (dl41 r') h
            exact ⟨by rw [e1], (List.cons.inj e2).2⟩
          · rw [if_pos n1, if_neg n2] at h
            simp only [List.cons_append, List.append_assoc, List.nil_append, List.cons.injEq, true_and] at h
            exact (num_other hx hx' n1 n2 hBx h).elim
          · rw [if_neg n1, if_pos n2] at h
            simp only [List.cons_append, List.append_assoc, List.nil_append, List.cons.injEq, true_and] at h
            obtain ⟨t, rfl, ht, hnt, hs, htx⟩ := num_leaf hx' n2
            by_cases ho : isOp x
            · rw [op_text ho, htx] at h
              simp only [List.cons_append, List.append_assoc, List.nil_append, List.cons.injEq, true_and] at h
              rw [← hs] at h
              obtain ⟨e, _⟩ := hBx _ hx' _ _ (d4_41 r) (d4_41 r') h
              rw [e] at ho
              exact ho.elim
            · cases x with
              | leaf u =>
                have hu : mayR u = true := hx
                rw [htx] at h
                simp only [Tree.sd] at h
                rw [leaf_text] at h
                by_cases hun : neg u
                · rw [if_pos hun] at h
                  simp only [List.cons_append, List.append_assoc, List.nil_append, List.cons.injEq, true_and] at h
                  obtain ⟨e, _⟩ := wr_inj hu ht (dl41 r) (dl41 r') h
                  rw [e] at hun
                  exact (hnt hun).elim
                · rw [if_neg hun] at h
                  obtain ⟨c, p, hc, hsu⟩ := wr_head hu
                  rw [hc] at h
                  simp only [List.cons_append, List.cons.injEq] at h
                  rw [h.1] at hsu
                  exact (sortT_ne8 hsu.symm).elim
              | _ => exact absurd trivial ho
          · rw [if_neg n1, if_neg n2] at h
            simp only [List.cons_append, List.cons.injEq, true_and] at h
            obtain ⟨e1, e2⟩ := hAx _ hx' _ _ hr.dl hr'.dl h
            exact ⟨by rw [e1], e2⟩
        · obtain ⟨c, q, hc, h33, h45, _⟩ := text_head hx'
          rw [mk_s hk', hc] at h
          split at h
          · simp only [List.cons_append, List.cons.injEq] at h
            exact (h45 h.1.symm).elim
          · simp only [List.cons_append, List.cons.injEq] at h
            exact (h45 h.1.symm).elim
      · -- a part first
        have hAx := (ih x (by omega) hx).1
        rw [mk_s hk] at h
        rcases tree_cases hE' with ⟨t', rfl, ht'⟩ | ⟨x', rfl, hx'⟩ | ⟨x', rfl, hx'⟩ | ⟨k', x', y', hk', rfl, hx', hy', _, _⟩
        · rw [show (Tree.leaf t').sd.s = (Tree.leaf t').sd.text from rfl, List.append_assoc, List.append_assoc] at h
          obtain ⟨_, e⟩ := hAx _ hE' _ _ (key_dl hk _) hr'.dl h
          exact (key_d4 hk hr' e.symm).elim
        · obtain ⟨c, q, hc, h33, h45, _⟩ := text_head hx
          rw [not_s, hc] at h
          simp only [List.cons_append, List.cons.injEq] at h
          exact (h33 h.1).elim
        · obtain ⟨c, q, hc, h33, h45, _⟩ := text_head hx
          rw [neg_s, hc] at h
          split at h
          · simp only [List.cons_append, List.cons.injEq] at h
            exact (h45 h.1).elim
          · simp only [List.cons_append, List.cons.injEq] at h
            exact (h45 h.1).elim
        · rw [mk_s hk'] at h
          simp only [List.append_assoc] at h
          obtain ⟨e1, e2⟩ := hAx _ hx' _ _ (key_dl hk _) (key_dl hk' _) h
          subst e1
          have hkk : k = k' := by
            rcases append_pre e2 with h | h
            · exact key_free k hk k' hk' (List.isPrefixOf_iff_prefix.2 h)
            · exact (key_free k' hk' k hk (List.isPrefixOf_iff_prefix.2 h)).symm
          subst hkk
          have e3 := List.append_cancel_left e2
          unfold postOf at e3
          by_cases h0 : k = 0
          · rw [if_pos h0, if_pos h0] at e3
            exact ⟨mk_inj fun h => absurd h0 h, e3⟩
          · obtain ⟨hAy, hBy⟩ := ih y (by have := sy h0; omega) hy
            rw [if_neg h0, if_neg h0] at e3
            by_cases hm : 11 ≤ k ∧ k ≤ 16
            · rw [if_pos hm, if_pos hm] at e3
              simp only [List.append_assoc, List.cons_append, List.nil_append] at e3
              obtain ⟨e4, e5⟩ := hBy _ hy' _ _ (d4_41 r) (d4_41 r') e3
              exact ⟨mk_inj fun _ => e4, (List.cons.inj e5).2⟩
            · rw [if_neg hm, if_neg hm] at e3
              obtain ⟨e4, e5⟩ := hAy _ hy' _ _ hr.dl hr'.dl e3
              exact ⟨mk_inj fun _ => e4, e5⟩
    refine ⟨?_, hB⟩
    by_cases ho : isOp E
    · intro E' hE' r r' hr hr' h
      by_cases ho' : isOp E'
      · rw [op_text ho, op_text ho'] at h
        simp only [List.cons_append, List.append_assoc, List.nil_append, List.cons.injEq, true_and] at h
        obtain ⟨e1, e2⟩ := hB _ hE' _ _ (d4_41 r) (d4_41 r') h
        exact ⟨e1, (List.cons.inj e2).2⟩
      · cases E' with
        | leaf u => exact (leaf_op hE' hE ho hr' h.symm).elim
        | _ => exact absurd trivial ho'
    · cases E with
      | leaf t => exact AT_leaf hE
      | _ => exact absurd trivial ho
/-- An expression's text tells the expression. -/
theorem tree_inj {E E' : Tree} (h : E.good) (h' : E'.good) (he : E.sd.s = E'.sd.s) : E = E' :=
  ((main _ E (Nat.lt_succ_self _) h).2 E' h' [] [] (fun c hc => by cases hc) (fun c hc => by cases hc) (by rw [he])).1
end Go.Vm

namespace Go.Vm
open Go Go.Proofs
mutual
/-- Each number is an int64's. -/
def Tm.rng : Tm → Prop
  | .mk _ n _ l => (-9223372036854775808 ≤ n ∧ n ≤ 9223372036854775807) ∧ rngL l
def rngL : List Tm → Prop
  | [] => True
  | t :: r => t.rng ∧ rngL r
end
theorem rngL_iff : ∀ {l : List Tm}, rngL l ↔ ∀ t ∈ l, t.rng
  | [] => by simp [rngL]
  | t :: r => by simp [rngL, rngL_iff (l := r)]
theorem Tm.rng_iff {t : Tm} : t.rng ↔ (-9223372036854775808 ≤ t.n ∧ t.n ≤ 9223372036854775807) ∧ ∀ x ∈ t.l, x.rng := by
  cases t
  simp only [Tm.rng, rngL_iff, Tm.n, Tm.l]
theorem flat_len {t : Tm} (h : mayFlat t = true) : t.s.length ≤ 256 := by
  obtain ⟨_, hf⟩ := flat_may h
  rcases hf with a | a | a | a | a | a
  · have := ((nameR_iff t.s).1 a.2.1).2.1
    omega
  · rw [a.2]; simp
  · unfold mayFlat at h
    rw [if_neg (by omega), if_neg (by omega), if_pos (.inl a.1)] at h
    split at h
    · omega
    · cases h
  · unfold mayFlat at h
    rw [if_neg (by omega), if_neg (by omega), if_pos (.inr a.1)] at h
    split at h
    · omega
    · cases h
  · rw [a.2.1]; simp
  · rw [a.2.1]; simp
theorem flat_ok {t : Tm} (h : mayFlat t = true) (hr : t.rng) : flatOk t := ⟨kind_range h, (Tm.rng_iff.1 hr).1, flat_len h⟩
theorem ok_of {t : Tm} (h : mayR t = true) (hr : t.rng) : okT t := by
  by_cases h7 : t.kind = 7
  · obtain ⟨_, _, h3, h4⟩ := set_may h7 h
    exact .inr ⟨h7, h3, fun x hx => flat_ok (h4 x hx) ((Tm.rng_iff.1 hr).2 x hx)⟩
  · exact .inl (flat_ok (flat_may' h7 h) hr)
theorem ops_ok' {l : List OpT} (h : mayE l = true) (hr : ∀ o ∈ l, o.term.rng) : okOps l := by
  obtain ⟨E, hE, ho, hf⟩ := may_tree h
  have hm : ∀ o ∈ l, mayOpR o = true := by
    unfold mayE at h
    split at h
    · exact whole_ops _ l 0 (Nat.lt_succ_self _) h
    · cases h
  exact ⟨fun o ho hk => ok_of (op1 (hm o ho) hk).1 (hr o ho), fun o ho hk => (op3 (hm o ho) hk).1, _, ho⟩
theorem cmpL_self {f : Tm → Tm → Int} : ∀ l : List Tm, (∀ x ∈ l, f x x = 0) → cmpL f l l = 0
  | [], _ => rfl
  | x :: r, h => by
    simp only [cmpL]
    rw [h x (by simp), if_neg (by simp)]
    exact cmpL_self r fun y hy => h y (List.mem_cons_of_mem _ hy)
theorem cmpR_self : ∀ (d : Nat) (t : Tm), cmpR d t t = 0 := by
  intro d
  induction d with
  | zero =>
    intro t
    simp [cmpR]
  | succ d ih =>
    intro t
    simp only [cmpR, ne_eq, not_true_eq_false, if_false]
    exact cmpL_self t.l fun x _ => ih x
theorem cmpR_zero {d : Nat} {t u : Tm} (h : cmpR (d + 1) t u = 0) : t.kind = u.kind ∧ t.n = u.n ∧ t.s = u.s ∧ cmpL (cmpR d) t.l u.l = 0 := by
  simp only [cmpR] at h
  split at h
  · exact absurd h (sgn_ne _)
  · split at h
    · exact absurd h (sgn_ne _)
    · split at h
      · exact absurd h (sgn_ne _)
      · rename_i a b c
        exact ⟨by simpa using a, by simpa using b, by simpa using c, h⟩
theorem cmpL_zero {f : Tm → Tm → Int} : ∀ {l l' : List Tm}, (∀ x ∈ l, ∀ y ∈ l', f x y = 0 → x = y) → cmpL f l l' = 0 → l = l'
  | [], [], _, _ => rfl
  | [], _ :: _, _, h => by simp [cmpL] at h
  | _ :: _, [], _, h => by simp [cmpL] at h
  | x :: r, y :: q, hf, h => by
    simp only [cmpL] at h
    by_cases h0 : f x y = 0
    · rw [if_neg (by simpa using h0)] at h
      rw [hf x (by simp) y (by simp) h0, cmpL_zero (fun a ha b hb => hf a (List.mem_cons_of_mem _ ha) b (List.mem_cons_of_mem _ hb)) h]
    · rw [if_pos h0] at h
      exact absurd h h0
theorem flat_same {d : Nat} {t u : Tm} (ht : mayFlat t = true) (hu : mayFlat u = true) (h : cmpR (d + 1) t u = 0) : t = u := by
  obtain ⟨h1, h2, h3, _⟩ := cmpR_zero h
  exact tm_eq h1 h2 h3 (by rw [(flat_may ht).1, (flat_may hu).1])
theorem may_same {t u : Tm} (ht : mayR t = true) (hu : mayR u = true) (h : cmpR 3 t u = 0) : t = u := by
  obtain ⟨h1, h2, h3, h4⟩ := cmpR_zero h
  refine tm_eq h1 h2 h3 ?_
  by_cases h7 : t.kind = 7
  · obtain ⟨_, _, _, a⟩ := set_may h7 ht
    obtain ⟨_, _, _, b⟩ := set_may (by omega) hu
    exact cmpL_zero (fun x hx y hy h => flat_same (a x hx) (b y hy) h) h4
  · rw [(flat_may (flat_may' h7 ht)).1, (flat_may (flat_may' (by omega) hu)).1]
theorem op_same {o p : OpT} (ho : mayOpR o = true) (hp : mayOpR p = true) (h1 : o.kind = p.kind) (h2 : o.code = p.code) (h3 : o.skip = p.skip) (h4 : cmpR 3 o.term p.term = 0) : o = p := by
  have ht : o.term = p.term := by
    by_cases k1 : o.kind = 1
    · exact may_same (op1 ho k1).1 (op1 hp (by omega)).1 h4
    · by_cases k2 : o.kind = 2
      · rw [(op2 ho k2).2, (op2 hp (by omega)).2]
      · by_cases k3 : o.kind = 3
        · rw [(op3 ho k3).2, (op3 hp (by omega)).2]
        · rw [(lazy_skip ho k1 k2 k3).2.2.1, (lazy_skip hp (by omega) (by omega) (by omega)).2.2.1]
  cases o; cases p
  simp only at h1 h2 h3 ht
  subst h1 h2 h3 ht
  rfl
theorem sameOps_eq : ∀ {a b : List OpT}, (∀ o ∈ a, mayOpR o = true) → (∀ o ∈ b, mayOpR o = true) → (sameOps a b = true ↔ a = b)
  | [], [], _, _ => by simp [sameOps]
  | [], _ :: _, _, _ => by simp [sameOps]
  | _ :: _, [], _, _ => by simp [sameOps]
  | x :: r, y :: q, ha, hb => by
    have ih := sameOps_eq (a := r) (b := q) (fun o ho => ha o (List.mem_cons_of_mem _ ho)) (fun o ho => hb o (List.mem_cons_of_mem _ ho))
    constructor
    · intro h
      simp only [sameOps] at h
      split at h
      · cases h
      · split at h
        · cases h
        · split at h
          · cases h
          · split at h
            · cases h
            · rename_i a1 a2 a3 a4
              have h4 : cmpR 3 x.term y.term = 0 := by simpa using a4
              rw [op_same (ha x (by simp)) (hb y (by simp)) (by simpa using a1) (by simpa using a2) (by simpa using a3) h4, ih.1 h]
    · intro h
      cases h
      simp only [sameOps, ne_eq, not_true_eq_false, if_false, cmpR_self]
      exact ih.2 rfl
theorem sameExpr_eq {a b : List OpT} (ha : ∀ o ∈ a, mayOpR o = true) (hb : ∀ o ∈ b, mayOpR o = true) : sameExprR a b = true ↔ a = b := by
  unfold sameExprR
  split
  · rename_i h
    constructor
    · intro h; cases h
    · rintro rfl
      exact absurd rfl h
  · exact sameOps_eq ha hb
theorem may_ops {l : List OpT} (h : mayE l = true) : ∀ o ∈ l, mayOpR o = true := by
  unfold mayE at h
  split at h
  · exact whole_ops _ l 0 (Nat.lt_succ_self _) h
  · cases h
theorem s_ne {E : Tree} (h : E.good) : 0 < E.sd.s.length := by
  rcases tree_cases h with ⟨t, rfl, ht⟩ | ⟨x, rfl, hx⟩ | ⟨x, rfl, hx⟩ | ⟨k, x, y, hk, rfl, hx, hy, _⟩
  · obtain ⟨c, q, hc, _⟩ := text_head h
    rw [show (Tree.leaf t).sd.s = (Tree.leaf t).sd.text from rfl, hc]
    simp
  · rw [not_s]
    simp
  · rw [neg_s]
    split <;> simp
  · obtain ⟨c, q, hc, _⟩ := text_head hx
    rw [mk_s hk, hc]
    simp
theorem one_plain (a b : List OpT) : onePlain a b := by
  intro ha hb
  have ea := may_of ha
  have eb := may_of hb
  obtain ⟨A, gA, oA, fA⟩ := may_tree ea
  obtain ⟨B, gB, oB, fB⟩ := may_tree eb
  have pa : printE a = A.sd.s := by
    unfold printE exprS
    rw [ea, oA, if_neg (by decide)]
  have pb : printE b = B.sd.s := by
    unfold printE exprS
    rw [eb, oB, if_neg (by decide)]
  refine ⟨?_, by rw [pa]; exact s_ne gA⟩
  have hs := sameExpr_eq (may_ops ea) (may_ops eb)
  rw [Bool.eq_iff_iff, beq_iff_eq, hs]
  constructor
  · intro h
    rw [pa, pb] at h
    rw [fA, fB, tree_inj gA gB h]
  · rintro rfl
    rfl
end Go.Vm

namespace Go.Vm
open Go Go.Proofs
theorem withR_mem (n s : S) : ∀ l : List S, s ∈ withR n l ↔ s = n ∨ s ∈ l
  | [] => by simp [withR]
  | x :: r => by
    simp only [withR]
    split
    · simp only [List.mem_cons, withR_mem n s r]
      constructor
      · rintro (h | h | h)
        · exact .inr (.inl h)
        · exact .inl h
        · exact .inr (.inr h)
      · rintro (h | h | h)
        · exact .inr (.inl h)
        · exact .inl h
        · exact .inr (.inr h)
    · split
      · rename_i hx
        subst hx
        simp
      · simp
theorem withR_same (n : S) : ∀ l : List S, (withR n l).length = l.length → n ∈ l
  | [], h => by simp [withR] at h
  | x :: r, h => by
    simp only [withR] at h
    split at h
    · have := withR_same n r (by simpa using h)
      exact List.mem_cons_of_mem _ this
    · split at h
      · rename_i hx
        subst hx
        simp
      · simp at h
theorem wT_mem (s : S) : ∀ (l : List Tm) (o : List S), s ∈ wT o l ↔ s ∈ o ∨ s ∈ varsT l
  | [], o => by simp [wT, varsT]
  | t :: r, o => by
    simp only [wT, varsT]
    split
    · rw [wT_mem s r, withR_mem]
      simp only [List.mem_cons]
      constructor
      · rintro ((h | h) | h)
        · exact .inr (.inl h)
        · exact .inl h
        · exact .inr (.inr h)
      · rintro (h | h | h)
        · exact .inl (.inr h)
        · exact .inl (.inl h)
        · exact .inr h
    · exact wT_mem s r o
theorem wP_mem (s : S) : ∀ (l : List Pd) (o : List S), s ∈ wP o l ↔ s ∈ o ∨ s ∈ varsP l
  | [], o => by simp [wP, varsP]
  | p :: r, o => by
    simp only [wP, varsP]
    rw [wP_mem s r, wT_mem]
    simp only [List.mem_append]
    constructor
    · rintro ((h | h) | h)
      · exact .inl h
      · exact .inr (.inl h)
      · exact .inr (.inr h)
    · rintro (h | h | h)
      · exact .inl (.inl h)
      · exact .inl (.inr h)
      · exact .inr h
theorem wO_mem (s : S) : ∀ (l : List OpT) (o : List S), s ∈ wO o l ↔ s ∈ o ∨ s ∈ varsO l
  | [], o => by simp [wO, varsO]
  | t :: r, o => by
    simp only [wO, varsO]
    split
    · split
      · rw [wO_mem s r, withR_mem]
        simp only [List.mem_cons]
        constructor
        · rintro ((h | h) | h)
          · exact .inr (.inl h)
          · exact .inl h
          · exact .inr (.inr h)
        · rintro (h | h | h)
          · exact .inl (.inr h)
          · exact .inl (.inl h)
          · exact .inr h
      · exact wO_mem s r o
    · exact wO_mem s r o
theorem allW_mem {l of : List S} (h : allW l of = true) : ∀ s ∈ l, s ∈ of := fun s hs => withR_same s of (by
  have := List.all_eq_true.1 h s hs
  simpa using this)
theorem predT_of {p : Pd} (h : mayPredR p = true) : mayPredT p = true := by
  have h8 := pred_terms h
  unfold mayPredR at h
  split at h
  · cases h
  · split at h
    · cases h
    · split at h
      · cases h
      · split at h
        · cases h
        · rename_i a b c d
          have hn : nameT p.name = true := by rw [nameT_eq]; simpa using a
          unfold mayPredT
          rw [if_pos hn, if_neg b, if_neg c]
          unfold fewTm
          rw [if_pos (by omega)]
          refine List.all_eq_true.2 fun t ht => ?_
          rw [mayT_eq]
          exact List.all_eq_true.1 h t ht
theorem factT_of {p : Pd} (h : mayFactR p = true) : mayFactT p = true := by
  unfold mayFactR at h
  split at h
  · rename_i hv
    have h8 := pred_terms h
    have ht := predT_of h
    unfold mayFactT
    rw [if_pos ht]
    unfold fewTm
    rw [if_pos (by omega)]
    refine List.all_eq_true.2 fun t htm => ?_
    have hk := List.all_eq_true.1 hv t htm
    simp only [Bool.not_eq_true', decide_eq_false_iff_not] at hk
    unfold fixT
    rw [if_neg hk]
    unfold mayPredT at ht
    split at ht
    · split at ht
      · cases ht
      · split at ht
        · cases ht
        · unfold fewTm at ht
          split at ht
          · exact List.all_eq_true.1 ht t htm
          · cases ht
    · cases ht
  · cases h
theorem body_parts {r : Ru} (h : mayBodyR r = true) : (r.body.length : Int) ≤ 4 ∧ (r.exprs.length : Int) ≤ 4 ∧ mayScsR r.scopes = true ∧ (∀ p ∈ r.body, mayPredR p = true) ∧ ∀ e ∈ r.exprs, mayExprR e = true ∧ allW (namesOR e) (namesR r.body) = true := by
  unfold mayBodyR at h
  split at h
  · cases h
  · split at h
    · cases h
    · split at h
      · cases h
      · split at h
        · rename_i a b c d
          refine ⟨by omega, by omega, by simpa using c, List.all_eq_true.1 d, fun e he => ?_⟩
          have := List.all_eq_true.1 h e he
          unfold exOkR at this
          split at this
          · rename_i hm
            exact ⟨hm, this⟩
          · cases this
        · cases h
theorem scs_parts {l : List Sc} (h : mayScsR l = true) : (l.length : Int) ≤ 4 ∧ ∀ s ∈ l, mayScR s = true := by
  unfold mayScsR at h
  split at h
  · rename_i a
    exact ⟨by simpa using h, List.all_eq_true.1 a⟩
  · cases h
theorem bodyT_of {r : Ru} (h : mayBodyR r = true) : mayBodyT r = true := by
  obtain ⟨h1, h2, h3, h4, h5⟩ := body_parts h
  obtain ⟨s1, s2⟩ := scs_parts h3
  have a1 : fewPd mayPredT 4 r.body = true := by
    unfold fewPd
    rw [if_pos h1]
    exact List.all_eq_true.2 fun p hp => predT_of (h4 p hp)
  have a2 : fewExp mayE 4 r.exprs = true := by
    unfold fewExp
    rw [if_pos h2]
    exact List.all_eq_true.2 fun e he => may_of (h5 e he).1
  have a3 : fewSc mayScR 4 r.scopes = true := by
    unfold fewSc
    rw [if_pos s1]
    exact List.all_eq_true.2 s2
  unfold mayBodyT
  rw [a1, a2, a3, if_neg (by decide), if_neg (by decide), if_neg (by decide)]
  refine List.all_eq_true.2 fun e he => ?_
  unfold knownR
  refine List.all_eq_true.2 fun s hs => ?_
  rw [decide_eq_true_eq, namesP_mem]
  rw [namesO_mem] at hs
  have m1 : s ∈ namesOR e := (wO_mem s e []).2 (.inr hs)
  have m2 := allW_mem (h5 e he).2 s m1
  rcases (wP_mem s r.body []).1 m2 with h | h
  · simp at h
  · exact h
theorem rule_parts {r : Ru} (h : mayRuleR r = true) : mayPredR r.head = true ∧ 0 < (r.body.length : Int) ∧ mayBodyR r = true ∧ allW (namesR [r.head]) (namesR r.body) = true := by
  unfold mayRuleR at h
  split at h
  · split at h
    · split at h
      · exact ⟨by assumption, by assumption, by assumption, h⟩
      · cases h
    · cases h
  · cases h
theorem ruleT_of {r : Ru} (h : mayRuleR r = true) : mayRuleT r = true := by
  obtain ⟨h1, h2, h3, h4⟩ := rule_parts h
  unfold mayRuleT
  rw [if_pos (predT_of h1), if_pos (by omega), if_pos (bodyT_of h3)]
  unfold knownR
  refine List.all_eq_true.2 fun s hs => ?_
  rw [decide_eq_true_eq, namesP_mem]
  rw [namesP_mem] at hs
  have m1 : s ∈ namesR [r.head] := (wP_mem s [r.head] []).2 (.inr hs)
  have m2 := allW_mem h4 s m1
  rcases (wP_mem s r.body []).1 m2 with h | h
  · simp at h
  · exact h
theorem query_parts {r : Ru} (h : mayQueryR r = true) : r.head.name = [] ∧ (r.head.terms.length : Int) = 0 ∧ 0 < IntKind.i64.wrap ((r.body.length : Int) + r.exprs.length) ∧ mayBodyR r = true := by
  unfold mayQueryR at h
  split at h
  · split at h
    · split at h
      · exact ⟨by assumption, by assumption, by assumption, h⟩
      · cases h
    · cases h
  · cases h
theorem queryT_of {r : Ru} (h : mayQueryR r = true) : mayQueryT r = true := by
  obtain ⟨h1, h2, h3, h4⟩ := query_parts h
  unfold mayQueryT
  rw [if_pos h1, if_pos h2, if_pos (by omega)]
  exact bodyT_of h4
theorem qs_parts {l : List Ru} (h : mayQsR l = true) : 1 ≤ (l.length : Int) ∧ (l.length : Int) ≤ 8 ∧ ∀ r ∈ l, mayQueryR r = true := by
  unfold mayQsR at h
  split at h
  · split at h
    · rename_i a b
      exact ⟨b, by simpa using h, List.all_eq_true.1 a⟩
    · cases h
  · cases h
theorem qsT_of {l : List Ru} (h : mayQsR l = true) : mayQsT l = true := by
  obtain ⟨h1, h2, h3⟩ := qs_parts h
  unfold mayQsT
  rw [if_pos h1]
  unfold fewRu
  rw [if_pos h2]
  exact List.all_eq_true.2 fun r hr => queryT_of (h3 r hr)
theorem block_parts {b : Bk} (h : mayBlockR b = true) : (b.facts.length : Int) ≤ 32 ∧ (b.rules.length : Int) ≤ 32 ∧ (b.checks.length : Int) ≤ 32 ∧ mayScsR b.scopes = true ∧
    (∀ p ∈ b.facts, mayFactR p = true) ∧ (∀ r ∈ b.rules, mayRuleR r = true) ∧ ∀ c ∈ b.checks, mayQsR c.queries = true := by
  unfold mayBlockR at h
  split at h
  · cases h
  · split at h
    · cases h
    · split at h
      · cases h
      · split at h
        · cases h
        · split at h
          · split at h
            · rename_i a b c d e f
              exact ⟨by omega, by omega, by omega, by simpa using d, List.all_eq_true.1 e, List.all_eq_true.1 f, List.all_eq_true.1 h⟩
            · cases h
          · cases h
theorem blockT_of {b : Bk} (h : mayBlockR b = true) : mayBlockT b = true := by
  obtain ⟨h1, h2, h3, h4, h5, h6, h7⟩ := block_parts h
  obtain ⟨s1, s2⟩ := scs_parts h4
  have hck : b.checks.all mayCheckT = true := List.all_eq_true.2 fun c hc => qsT_of (h7 c hc)
  unfold mayBlockT fewPd fewRu fewCk fewSc
  rw [if_pos h1, if_pos (List.all_eq_true.2 fun p hp => factT_of (h5 p hp)), if_pos h2, if_pos (List.all_eq_true.2 fun r hr => ruleT_of (h6 r hr)), if_pos h3, if_pos hck, if_pos s1]
  exact List.all_eq_true.2 s2
theorem scopes_only {l : List Sc} (h : mayScsR l = true) : mayBlockT ⟨[], [], [], l⟩ = true := by
  obtain ⟨s1, s2⟩ := scs_parts h
  unfold mayBlockT fewPd fewRu fewCk fewSc
  simp only [List.length_nil, List.all_nil, if_pos s1]
  simpa using s2
/-! Bounds -/
def Pd.rng (p : Pd) : Prop := ∀ t ∈ p.terms, t.rng
def exRng (e : Exp) : Prop := ∀ o ∈ e, o.term.rng
def Ru.rng (r : Ru) : Prop := r.head.rng ∧ (∀ p ∈ r.body, p.rng) ∧ ∀ e ∈ r.exprs, exRng e
def Ck.rng (c : Ck) : Prop := ∀ r ∈ c.queries, r.rng
def Bk.rng (b : Bk) : Prop := (∀ p ∈ b.facts, p.rng) ∧ (∀ r ∈ b.rules, r.rng) ∧ ∀ c ∈ b.checks, c.rng
theorem okP_of {p : Pd} (h : mayPredR p = true) (hr : p.rng) : okP p := by
  have h8 := pred_terms h
  unfold mayPredR at h
  split at h
  · cases h
  · split at h
    · cases h
    · split at h
      · cases h
      · split at h
        · cases h
        · rename_i a b c d
          have hn : nameR p.name = true := by simpa using a
          exact ⟨((nameR_iff _).1 hn).2.1, h8, fun t ht => ok_of (List.all_eq_true.1 h t ht) (hr t ht)⟩
theorem okS_of {s : Sc} (h : mayScR s = true) : okS s := by
  unfold mayScR at h
  show s.key.length ≤ 32
  split at h
  · rw [List.isEmpty_iff.1 h]; simp
  · split at h
    · have : (s.key.length : Int) = 32 := by simpa using h
      omega
    · cases h
theorem okB_of {r : Ru} (h : mayBodyR r = true) (hb : ∀ p ∈ r.body, p.rng) (he : ∀ e ∈ r.exprs, exRng e) : okB r := by
  obtain ⟨h1, h2, h3, h4, h5⟩ := body_parts h
  obtain ⟨s1, s2⟩ := scs_parts h3
  exact ⟨⟨by omega, fun p hp => okP_of (h4 p hp) (hb p hp)⟩, ⟨by omega, fun e hh => ⟨expr_len (h5 e hh).1, ops_ok' (may_of (h5 e hh).1) (he e hh)⟩⟩, by omega, fun s hs => okS_of (s2 s hs)⟩
theorem parts_plain (b : Bk) (hr : b.rng) : partsPlain b := by
  intro h
  obtain ⟨h1, h2, h3, h4, h5, h6, h7⟩ := block_parts h
  obtain ⟨s1, s2⟩ := scs_parts h4
  have fact : ∀ p ∈ b.facts, mayPredR p = true := fun p hp => by
    have := h5 p hp
    unfold mayFactR at this
    split at this
    · exact this
    · cases this
  refine ⟨⟨⟨by omega, fun p hp => okP_of (fact p hp) (hr.1 p hp)⟩, ⟨by omega, fun r hh => ?_⟩, ⟨by omega, fun c hc => ?_⟩, by omega, fun s hs => okS_of (s2 s hs)⟩, blockT_of h, scopes_only h4, fun p hp => predT_of (fact p hp), fun r hh => ruleT_of (h6 r hh), fun c hc => qsT_of (h7 c hc)⟩
  · obtain ⟨a1, _, a3, _⟩ := rule_parts (h6 r hh)
    have hq := hr.2.1 r hh
    exact ⟨okP_of a1 hq.1, okB_of a3 hq.2.1 hq.2.2⟩
  · obtain ⟨_, a2, a3⟩ := qs_parts (h7 c hc)
    refine ⟨by omega, fun q hq => ?_⟩
    have hqr := hr.2.2 c hc q hq
    exact okB_of (query_parts (a3 q hq)).2.2.2 hqr.2.1 hqr.2.2
end Go.Vm
