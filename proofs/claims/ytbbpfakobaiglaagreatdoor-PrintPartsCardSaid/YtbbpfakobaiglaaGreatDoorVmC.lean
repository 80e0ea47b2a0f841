/- What the abstract machine computes, the model's call computes, in whatever order a drawing region is run. Condition: the library's contracts that were used hold. -/
import Derived.Test.YtbbpfakobaiglaaGreatDoorVmA
import Derived.Test.YtbbpfakobaiglaaGreatDoorVmB
import Derived.LoopN
set_option linter.unusedVariables false
set_option linter.unusedSimpArgs false
namespace Go.Vm
open Go

theorem evalOp_congr {P : Program} {cold : Bool} {s s' : St} (op : Op) (hm : s.mem = s'.mem) (h : ∀ x ∈ op.operands, s.get x = s'.get x) : evalOp P cold s op = evalOp P cold s' op ∧ clsOf s op = clsOf s' op := by
  have lst : ∀ xs : Array Operand, (∀ x ∈ xs, s.get x = s'.get x) → xs.toList.map s.get = xs.toList.map s'.get := fun xs hx => List.map_congr_left fun x hm => hx x (by simpa using hm)
  have prs : ∀ ps : Array (Nat × Operand), (∀ x ∈ ps.map (·.2), s.get x = s'.get x) → (ps.toList.map fun p => s.get p.2) = (ps.toList.map fun p => s'.get p.2) ∧ (ps.toList.map fun p => (p.1, s.get p.2)) = (ps.toList.map fun p => (p.1, s'.get p.2)) := fun ps hp => by
    have : ∀ p ∈ ps.toList, s.get p.2 = s'.get p.2 := fun p hm => hp p.2 (Array.mem_map.2 ⟨p, by simpa using hm, rfl⟩)
    exact ⟨List.map_congr_left this, List.map_congr_left fun p hp => by rw [this p hp]⟩
  cases op <;> simp only [Op.operands] at h <;> simp only [evalOp, clsOf, hm]
  case build t ps => rw [(prs ps fun x hx => h x (by simpa using hx)).2]; simp
  case buildSlice t n ps => rw [(prs ps fun x hx => h x (by simpa using hx)).1]; simp
  case makeFunc fn first captured =>
    rw [lst first fun x hx => h x (by simp [hx]), lst captured fun x hx => h x (by simp [hx])]; simp
  case call c =>
    obtain ⟨cal, as, ts⟩ := c
    have ha : as.toList.map s.get = as.toList.map s'.get := lst as fun x hx => h x (by simp [Call.operands, hx])
    have hmem : ∀ x ∈ as.toList, s.get x = s'.get x := fun x hx => h x (by
      have : x ∈ as := Array.mem_toList_iff.1 hx
      simp [Call.operands, this])
    cases cal with
    | builtin b =>
      cases b <;> simp only [evalOp, clsOf, hm, ha, and_self, and_true]
      case len =>
        split
        · rename_i x t h1 h2
          rw [hmem x (by simp [h1])]
        · rfl
      case max =>
        split
        · rename_i x y h1
          rw [hmem x (by simp [h1]), hmem y (by simp [h1])]
        · rfl
      case min =>
        split
        · rename_i x y h1
          rw [hmem x (by simp [h1]), hmem y (by simp [h1])]
        · rfl
      case append =>
        split
        · rename_i x y t t2 h1 h2
          rw [hmem x (by simp [h1]), hmem y (by simp [h1])]
        · rfl
    | _ => simp [evalOp, clsOf, hm]
  case slice t x lo hi mx => cases lo <;> cases hi <;> cases mx <;> simp_all
  all_goals (first | exact ⟨rfl, rfl⟩ | (simp_all; done))

def Cls.near : Cls → Mem → Mem → Prop
  | .pure, _, _ => True
  | .rd b k, m, m2 => (∀ x ∈ b, m2.blks[x]? = m.blks[x]?) ∧ ∀ x ∈ k, m2.toks[x]? = m.toks[x]?
  | .eff _ _ _ _, m, m2 => m2 = m
def Cls.keeps : Cls → Mem → Mem → Prop
  | .eff b k nb nt, m, m' => (∀ x, x < nb → x ∉ b → m'.blks[x]? = m.blks[x]?) ∧ ∀ x, x < nt → x ∉ k → m'.toks[x]? = m.toks[x]?
  | _, m, m' => m' = m
def Cls.isEff : Cls → Bool
  | .eff _ _ _ _ => true
  | _ => false

/-- An operation's value in another memory that is alike where the operation looks. -/
theorem indexAddrV_near {P : Program} {m m2 : Mem} {t : TypeId} {vx vi : V} (h : ∀ k, vx = .osl k → m2.toks[k]? = m.toks[k]?) : indexAddrV P m2 t vx vi = indexAddrV P m t vx vi := by
  unfold indexAddrV
  cases mkTy P t with
  | none => rfl
  | some ty0 =>
    obtain ⟨u, _, _, _, _⟩ := ty0
    cases u with
    | slice e =>
      cases vi with
      | int _ i =>
        simp only
        cases mkTy P e with
        | none => rfl
        | some ty =>
          simp only
          split
          · rfl
          · cases vx with
            | osl k => simp only [h k rfl]
            | _ => rfl
      | _ => rfl
    | array n e => cases vx <;> cases vi <;> rfl
    | _ => rfl
theorem rdSl_near {m m2 : Mem} {vx : V} (h : ∀ k, vx = .osl k → m2.toks[k]? = m.toks[k]?) : rdSl m2 vx = rdSl m vx := by
  cases vx with
  | osl k => simp only [rdSl, h k rfl]
  | _ => rfl
theorem lenV_near {P : Program} {m m2 : Mem} {t : TypeId} {vx : V} (h : ∀ k, vx = .osl k → m2.toks[k]? = m.toks[k]?) : lenV P m2 t vx = lenV P m t vx := by
  have := rdSl_near h
  unfold lenV
  cases mkTy P t with
  | none => rfl
  | some ty0 =>
    obtain ⟨u, _, _, _, _⟩ := ty0
    cases u with
    | slice e => simp only [this]
    | string => cases vx <;> rfl
    | _ => rfl
theorem evalOp_near {P : Program} {cold : Bool} {s : St} {op : Op} {e : Eff} (h : evalOp P cold s op = some e) (hc : (clsOf s op).isEff = false) (m2 : Mem) (hn : (clsOf s op).near s.mem m2) :
    e.mem = s.mem ∧ evalOp P cold ⟨s.env, m2⟩ op = some ⟨e.ok, e.v, m2⟩ ∧ clsOf ⟨s.env, m2⟩ op = clsOf s op := by
  have hget : (⟨s.env, m2⟩ : St).get = s.get := by
    funext x
    cases x <;> rfl
  cases op <;> try (simp [evalOp] at h; done)
  case alloc => simp [clsOf, effOf, Cls.isEff] at hc
  case box => simp [clsOf, effOf, Cls.isEff] at hc
  case buildSlice => simp [clsOf, effOf, Cls.isEff] at hc
  case store t a x =>
    simp only [clsOf, effOf] at hc
    split at hc <;> simp [Cls.isEff] at hc
  case move => simp_all [evalOp, clsOf]; subst h; simp
  case assign => simp_all [evalOp, clsOf]; subst h; simp
  case makeFunc => simp_all [evalOp, clsOf]; subst h; simp
  case build =>
    simp only [evalOp, hget, clsOf] at h ⊢
    (repeat' split at h) <;> simp_all <;> subst h <;> simp
  case nilCheck =>
    simp only [evalOp, hget, clsOf] at h ⊢
    (repeat' split at h) <;> simp_all <;> subst h <;> simp
  case binOp =>
    simp only [evalOp, hget, clsOf] at h ⊢
    (repeat' split at h) <;> simp_all <;> subst h <;> simp
  case unOp =>
    simp only [evalOp, hget, clsOf] at h ⊢
    (repeat' split at h) <;> simp_all <;> subst h <;> simp
  case fieldAddr =>
    simp only [evalOp, hget, clsOf] at h ⊢
    (repeat' split at h) <;> simp_all <;> subst h <;> simp
  case field =>
    simp only [evalOp, hget, clsOf] at h ⊢
    (repeat' split at h) <;> simp_all <;> subst h <;> simp
  case index =>
    simp only [evalOp, hget, clsOf] at h ⊢
    (repeat' split at h) <;> simp_all <;> subst h <;> simp
  case extract =>
    simp only [evalOp, hget, clsOf] at h ⊢
    (repeat' split at h) <;> simp_all <;> subst h <;> simp
  case makeInterface =>
    simp only [evalOp, hget, clsOf] at h ⊢
    (repeat' split at h) <;> simp_all <;> subst h <;> simp
  case load t a =>
    have key : ∀ ty, loadV m2 ty (s.get a) = loadV s.mem ty (s.get a) := fun ty => by
      simp only [clsOf] at hn
      cases ha : s.get a <;> simp_all [loadV, Cls.near, clsOf]
    have hcl : clsOf ⟨s.env, m2⟩ (.load t a) = clsOf s (.load t a) := by simp only [clsOf, hget]
    simp only [evalOp, hget, key] at h ⊢
    (repeat' split at h) <;> simp_all <;> subst h <;> simp
  case convert src dst x =>
    have k1 : ∀ m, convV P src dst m (s.get x) = (convV P src dst s.mem (s.get x)).map fun p => (p.1, m) := fun m => by
      unfold convV
      split <;> simp
    have k1' : ∀ p, convV P src dst s.mem (s.get x) = some p → p.2 = s.mem := fun p hp => by
      rw [k1] at hp
      simp only [Option.map_eq_some_iff] at hp
      obtain ⟨q, _, rfl⟩ := hp
      rfl
    have k2 : rdSl m2 (s.get x) = rdSl s.mem (s.get x) := rdSl_near fun k hk => by
      simp only [clsOf, hk, Cls.near] at hn
      exact hn.2 k (by simp)
    have hcl : clsOf ⟨s.env, m2⟩ (.convert src dst x) = clsOf s (.convert src dst x) := by simp only [clsOf, hget]
    simp only [evalOp, hget, k2] at h ⊢
    rw [k1 m2]
    cases hcv : convV P src dst s.mem (s.get x) with
    | some p =>
      have := k1' p hcv
      rw [hcv] at h
      obtain ⟨v, m⟩ := p
      simp only at this
      subst this
      simp only [Option.some.injEq] at h
      subst h
      simp [hcl]
    | none =>
      rw [hcv] at h
      clear k1 k1' k2
      simp only [Option.map_none] at h ⊢
      split at h
      · split at h
        · injection h with h
          subst h
          refine ⟨rfl, ?_, hcl⟩
          simp [*]
        · cases h
      · cases h
  case slice t x lo hi mx =>
    have hcl : clsOf ⟨s.env, m2⟩ (.slice t x lo hi mx) = clsOf s (.slice t x lo hi mx) := by
      simp only [clsOf, hget]
      cases hx : s.get x <;> simp_all [clsOf, Cls.isEff, effOf]
    suffices hs : e.mem = s.mem ∧ evalOp P cold ⟨s.env, m2⟩ (.slice t x lo hi mx) = some ⟨e.ok, e.v, m2⟩ from ⟨hs.1, hs.2, hcl⟩
    simp only [evalOp, hget] at h ⊢
    have hno : ∀ k, s.get x ≠ .osl k := fun k hk => by simp [clsOf, hk, effOf, Cls.isEff] at hc
    unfold sliceV at h ⊢
    (repeat' split at h) <;> simp_all <;> subst h <;> simp
  case indexAddr t x i =>
    have hcl : clsOf ⟨s.env, m2⟩ (.indexAddr t x i) = clsOf s (.indexAddr t x i) := by
      simp only [clsOf, hget]
    have key : indexAddrV P m2 t (s.get x) (s.get i) = indexAddrV P s.mem t (s.get x) (s.get i) := by
      simp only [clsOf] at hn
      refine indexAddrV_near fun k hk => ?_
      simp only [hk, Cls.near] at hn
      exact hn.2 k (by simp)
    simp only [evalOp, hget, key] at h ⊢
    (repeat' split at h) <;> simp_all <;> subst h <;> simp
  case call c =>
    obtain ⟨cal, as, ts⟩ := c
    cases cal with
    | builtin b =>
      cases b <;> try (simp [evalOp] at h; done)
      case append => simp [clsOf, effOf, Cls.isEff] at hc
      case max => simp [clsOf, effOf, Cls.isEff] at hc
      case min => simp [clsOf, effOf, Cls.isEff] at hc
      case len =>
        simp only [evalOp, hget, clsOf] at h hn ⊢
        split at h
        · rename_i x t h1 h2
          have key : lenV P m2 t (s.get x) = lenV P s.mem t (s.get x) := lenV_near fun k hk => by
            rw [h1] at hn
            exact hn.2 k (by simp [tksL, hk, V.tks])
          rw [key]
          (repeat' split at h) <;> simp_all <;> subst h <;> simp
        · cases h
    | _ => simp [evalOp] at h
mutual
theorem norm_ind (m m2 : Mem) : ∀ v : V, v.tks = [] → v.mks = [] → v.norm m = v.norm m2
  | .int _ _, _, _ => rfl
  | .bool _, _, _ => rfl
  | .str _, _, _ => rfl
  | .sl _, _, _ => rfl
  | .nilsl, _, _ => rfl
  | .osl _, h, _ => by simp [V.tks] at h
  | .ptr _ _, _, _ => rfl
  | .eptr _ _ _, _, _ => rfl
  | .iptr _, _, _ => rfl
  | .nilp, _, _ => rfl
  | .fn f fs cs, h, k => by
    simp only [V.tks, V.mks, List.append_eq_nil_iff] at h k
    simp only [V.norm, normL_ind m m2 fs h.1 k.1, normL_ind m m2 cs h.2 k.2]
  | .nilfn, _, _ => rfl
  | .agg cs, h, k => by
    simp only [V.tks, V.mks] at h k
    simp only [V.norm, normL_ind m m2 cs h k]
  | .tuple cs, h, k => by
    simp only [V.tks, V.mks] at h k
    simp only [V.norm, normL_ind m m2 cs h k]
  | .iface t v, h, k => by
    simp only [V.tks, V.mks] at h k
    simp only [V.norm, norm_ind m m2 v h k]
  | .nili, _, _ => rfl
  | .imap _, _, _ => rfl
  | .omap _, _, k => by simp [V.mks] at k
  | .iter _, _, _ => rfl
  | .junk, _, _ => rfl
theorem normL_ind (m m2 : Mem) : ∀ vs : List V, tksL vs = [] → mksL vs = [] → normL m vs = normL m2 vs
  | [], _, _ => rfl
  | v :: r, h, k => by
    simp only [tksL, mksL, List.append_eq_nil_iff] at h k
    simp only [normL, norm_ind m m2 v h.1 k.1, normL_ind m m2 r h.2 k.2]
end
theorem clsC_cases (cold : Bool) (s : St) (op : Op) : clsC cold s op = clsOf s op ∨
    ∃ t n ps, op = .buildSlice t n ps ∧ cold = true ∧ tksL (ps.toList.map fun p => s.get p.2) = [] ∧ mksL (ps.toList.map fun p => s.get p.2) = [] ∧ clsC cold s op = .pure := by
  cases op <;> try exact .inl rfl
  rename_i t n ps
  simp only [clsC]
  split
  · rename_i h1 h2
    exact .inr ⟨t, n, ps, rfl, rfl, h1, h2, rfl⟩
  · exact .inl rfl
theorem clsC_congr (P : Program) {cold : Bool} {s s' : St} (op : Op) (hm : s.mem = s'.mem) (h : ∀ x ∈ op.operands, s.get x = s'.get x) : clsC cold s op = clsC cold s' op := by
  have hc := (evalOp_congr (P := P) (cold := cold) op hm h).2
  cases op <;> try exact hc
  rename_i t n ps
  have this : ps.toList.map (fun p => s.get p.2) = ps.toList.map fun p => s'.get p.2 := List.map_congr_left fun p hp => h p.2 (by
    simp only [Op.operands]
    simp only [List.mem_toArray, List.mem_map, Array.mem_toList_iff, Array.mem_map]
    first
      | exact ⟨p, hp, rfl⟩
      | exact ⟨p, by simpa using hp, rfl⟩)
  simp only [clsC, this, hc]
theorem evalOp_nearC {P : Program} {cold : Bool} {s : St} {op : Op} {e : Eff} (h : evalOp P cold s op = some e) (hc : (clsC cold s op).isEff = false) (m2 : Mem) (hn : (clsC cold s op).near s.mem m2) :
    e.mem = s.mem ∧ evalOp P cold ⟨s.env, m2⟩ op = some ⟨e.ok, e.v, m2⟩ ∧ clsC cold ⟨s.env, m2⟩ op = clsC cold s op := by
  have hget : (⟨s.env, m2⟩ : St).get = s.get := by
    funext x
    cases x <;> rfl
  rcases clsC_cases cold s op with hcc | ⟨t, n, ps, rfl, rfl, h1, h2, h3⟩
  · rw [hcc] at hc hn
    obtain ⟨a, b, c⟩ := evalOp_near h hc m2 hn
    refine ⟨a, b, ?_⟩
    cases op <;> try exact c
    rename_i t n ps
    simp only [clsC, hget] at hcc ⊢
    split
    · rfl
    · exact c
  · have e1 : settleL m2 (ps.toList.map fun p => s.get p.2) = (m2, (settleL s.mem (ps.toList.map fun p => s.get p.2)).2) := by
      simp only [settleL, h1, h2, Mem.freeze, Mem.freezeM, normL_ind m2 s.mem _ h1 h2]
    have e2 : settleL s.mem (ps.toList.map fun p => s.get p.2) = (s.mem, (settleL s.mem (ps.toList.map fun p => s.get p.2)).2) := by
      simp only [settleL, h1, h2, Mem.freeze, Mem.freezeM]
    refine ⟨?_, ?_, by simp only [clsC, hget, h1, h2]⟩
    · simp only [evalOp] at h
      rw [e2] at h
      clear e1 e2 h1 h2 h3 hn hc
      generalize (settleL s.mem (ps.toList.map fun p => s.get p.2)).2 = vs at h
      simp only at h
      (repeat' split at h) <;> simp_all <;> subst h <;> rfl
    · simp only [evalOp, hget] at h ⊢
      rw [e1]
      rw [e2] at h
      clear e1 e2 h1 h2 h3 hn hc
      generalize (settleL s.mem (ps.toList.map fun p => s.get p.2)).2 = vs at h
      simp only at h ⊢
      (repeat' split at h) <;> simp_all <;> subst h <;> simp
end Go.Vm

namespace Go.Vm
open Go

theorem freeze_blks : ∀ (ks : List Nat) (m : Mem), (m.freeze ks).blks = m.blks
  | [], m => rfl
  | k :: r, m => by rw [Mem.freeze, freeze_blks r]
theorem freeze_len : ∀ (ks : List Nat) (m : Mem), (m.freeze ks).toks.length = m.toks.length
  | [], m => rfl
  | k :: r, m => by rw [Mem.freeze, freeze_len r]; simp
theorem freeze_toks : ∀ (ks : List Nat) (m : Mem) (x : Nat), x ∉ ks → (m.freeze ks).toks[x]? = m.toks[x]?
  | [], m, x, h => rfl
  | k :: r, m, x, h => by
    simp only [List.mem_cons, not_or] at h
    rw [Mem.freeze, freeze_toks r _ x h.2]
    simp [getElem?_setAt, h.1]
theorem freezeM_blks : ∀ (ks : List Nat) (m : Mem), (m.freezeM ks).blks = m.blks
  | [], m => rfl
  | k :: r, m => by rw [Mem.freezeM, freezeM_blks r]
theorem freezeM_toks : ∀ (ks : List Nat) (m : Mem), (m.freezeM ks).toks = m.toks
  | [], m => rfl
  | k :: r, m => by rw [Mem.freezeM, freezeM_toks r]
theorem append_get {α : Type} (l r : List α) (x : Nat) (h : x < l.length) : (l ++ r)[x]? = l[x]? := List.getElem?_append_left h

theorem evalOp_keeps {P : Program} {cold : Bool} {s : St} {op : Op} {e : Eff} (h : evalOp P cold s op = some e) : (clsOf s op).keeps s.mem e.mem := by
  cases hef : (clsOf s op).isEff with
  | false =>
    have hn : (clsOf s op).near s.mem s.mem := by
      cases hc : clsOf s op <;> simp_all [Cls.near]
    have := (evalOp_near h hef s.mem hn).1
    cases hc : clsOf s op <;> simp_all [Cls.keeps, Cls.isEff]
  | true =>
    cases op <;> try (simp [evalOp] at h; done)
    case alloc t =>
      simp only [clsOf, effOf, Cls.keeps]
      simp only [evalOp] at h
      split at h
      · injection h with h
        subst h
        exact ⟨fun x hx _ => append_get _ _ x hx, fun _ _ _ => rfl⟩
      · cases h
    case box t x =>
      simp only [clsOf, effOf, Cls.keeps]
      simp only [evalOp] at h
      split at h
      · cases h
      · injection h with h
        subst h
        exact ⟨fun x hx _ => append_get _ _ x hx, fun _ _ _ => rfl⟩
    case buildSlice t n ps =>
      simp only [clsOf, effOf, Cls.keeps]
      have hs : ∀ x, x ∉ tksL (ps.toList.map fun p => s.get p.2) → (settleL s.mem (ps.toList.map fun p => s.get p.2)).1.toks[x]? = s.mem.toks[x]? := fun x hx => by
        simp only [settleL, freezeM_toks]
        exact freeze_toks _ _ _ hx
      have hl : (settleL s.mem (ps.toList.map fun p => s.get p.2)).1.toks.length = s.mem.toks.length := by
        simp only [settleL, freezeM_toks, freeze_len]
      have hb : (settleL s.mem (ps.toList.map fun p => s.get p.2)).1.blks = s.mem.blks := by
        simp only [settleL, freezeM_blks, freeze_blks]
      simp only [evalOp] at h
      split at h
      · split at h
        · split at h
          · cases h
          · split at h
            · split at h
              · split at h
                · injection h with h
                  subst h
                  exact ⟨fun x hx _ => by rw [hb], fun x hx hn => hs x hn⟩
                · injection h with h
                  subst h
                  exact ⟨fun x hx _ => by simp only [hb], fun x hx hn => by
                    simp only
                    rw [append_get _ _ x (by rw [hl]; exact hx)]
                    exact hs x hn⟩
              · cases h
            · cases h
        · cases h
      · cases h
    case load t a =>
      simp only [clsOf] at hef
      split at hef <;> simp [Cls.isEff] at hef
    case store t a x =>
      simp only [evalOp] at h
      split at h
      · split at h
        · rename_i m hs
          injection h with h
          subst h
          simp only [clsOf]
          unfold storeV at hs
          split at hs
          · rename_i b off ha
            simp only [ha, effOf, Cls.keeps]
            split at hs
            · split at hs
              · injection hs with hs
                subst hs
                refine ⟨fun y hy hn => ?_, fun _ _ _ => rfl⟩
                simp only [getElem?_setAt]
                rw [if_neg (by simpa using hn)]
              · cases hs
            · cases hs
          · rename_i k i off ha
            simp only [ha, effOf, Cls.keeps]
            simp only at hs
            split at hs
            · split at hs
              · split at hs
                · injection hs with hs
                  subst hs
                  refine ⟨fun y hy hn => ?_, fun y hy hn => ?_⟩
                  · simp only [settle, freezeM_blks, freeze_blks]
                  · simp only [List.mem_cons, not_or] at hn
                    simp only [getElem?_setAt, if_neg hn.1, settle, freezeM_toks]
                    exact freeze_toks _ _ _ hn.2
                · cases hs
              · cases hs
            · cases hs
          · cases hs
        · cases h
      · cases h
    case slice t x lo hi mx =>
      simp only [clsOf] at hef ⊢
      split at hef
      · rename_i k hk
        simp only [evalOp, hk] at h
        simp only [hk, effOf, Cls.keeps]
        unfold sliceV at h
        split at h
        · split at h
          · simp_all
          · simp_all
          · rename_i k' _ hk'
            split at h
            · simp only at h
              split at h
              · injection h with h
                subst h
                obtain rfl : k = k' := by simpa using hk'
                refine ⟨fun _ _ _ => rfl, fun y hy hn => ?_⟩
                simp only
                rw [append_get _ _ y (by simpa using hy), getElem?_setAt, if_neg (by simpa using hn)]
              · cases h
            · cases h
          · cases h
        · cases h
      · simp [Cls.isEff] at hef
    case indexAddr t x i =>
      simp only [clsOf] at hef
      split at hef <;> simp [Cls.isEff] at hef
    case convert t t' x =>
      simp only [clsOf] at hef
      split at hef <;> simp [Cls.isEff] at hef
    case call c =>
      obtain ⟨cal, as, ts⟩ := c
      cases cal with
      | builtin b =>
        cases b <;> try (simp [evalOp] at h; done)
        case len => simp [clsOf, Cls.isEff] at hef
        case max =>
          simp only [clsOf, effOf, Cls.keeps]
          simp only [evalOp] at h
          split at h
          · split at h
            · split at h
              · injection h with h
                subst h
                exact ⟨fun _ _ _ => rfl, fun _ _ _ => rfl⟩
              · cases h
            · cases h
          · cases h
        case min =>
          simp only [clsOf, effOf, Cls.keeps]
          simp only [evalOp] at h
          split at h
          · split at h
            · split at h
              · injection h with h
                subst h
                exact ⟨fun _ _ _ => rfl, fun _ _ _ => rfl⟩
              · cases h
            · cases h
          · cases h
        case append =>
          simp only [clsOf, effOf, Cls.keeps]
          simp only [evalOp] at h
          split at h
          · rename_i x y t t2 h1 h2
            unfold appendV at h
            split at h
            · cases h
            · split at h
              · split at h
                · split at h
                  · cases h
                  · split at h
                    · split at h
                      · injection h with h
                        subst h
                        exact ⟨fun _ _ _ => rfl, fun y hy _ => append_get _ _ y hy⟩
                      · rename_i k hk
                        split at h
                        · cases h
                        · split at h
                          · split at h
                            · injection h with h
                              subst h
                              refine ⟨fun _ _ _ => rfl, fun z hz hn => ?_⟩
                              rw [h1] at hn
                              simp only [List.map_cons, hk, tksL, V.tks, List.cons_append, List.nil_append, List.mem_cons, not_or] at hn
                              simp only
                              rw [append_get _ _ z (by simpa using hz), getElem?_setAt, if_neg hn.1]
                            · cases h
                          · cases h
                      · cases h
                    · cases h
                · cases h
              · cases h
          · cases h
      | _ => simp [evalOp] at h
    all_goals simp [clsOf, Cls.isEff] at hef
theorem evalOp_keepsC {P : Program} {cold : Bool} {s : St} {op : Op} {e : Eff} (h : evalOp P cold s op = some e) : (clsC cold s op).keeps s.mem e.mem := by
  rcases clsC_cases cold s op with hcc | ⟨t, n, ps, rfl, rfl, h1, h2, h3⟩
  · rw [hcc]
    exact evalOp_keeps h
  · have hn : (clsC true s (.buildSlice t n ps)).near s.mem s.mem := by rw [h3]; trivial
    have := (evalOp_nearC h (by rw [h3]; rfl) s.mem hn).1
    rw [h3]
    exact this
end Go.Vm

namespace Go.Vm
open Go

def callP (c : Cfg) (g : FuncId) (m : Mem) (vs : List V) : Mem × List V := if c.lend g then (m, vs) else settleL m vs
def callIds (p : Mem × List V) : List Nat := reach p.1.blks (fuelOf p.1.blks (ptrsL p.2)) [] (ptrsL p.2)
def callKs (p : Mem × List V) : List Nat := dedup [] (tksL p.2 ++ tksB ((callIds p).map (blkAt p.1.blks)))
inductive Did (c : Cfg) (R : CallRel) (all : List Oper) (o : Oper) (s : St) : Cls → V → Mem → Prop
  | pick (q a b : Operand) (t : Bool) (ho : o.op = .pick q a b) (hq : s.get q = .bool t) : Did c R all o s .pure (if t then s.get a else s.get b) s.mem
  | call (f : Operand) (as : Array Operand) (ts : Array TypeId) (g : FuncId) (fs cs : List V) (r : V) (m' : Mem) (ho : o.op = .call ⟨.value f, as, ts⟩) (hf : s.get f = .fn (.func g) fs cs)
      (p : Mem × List V) (hp : p = callP c g s.mem (fs ++ as.toList.map s.get ++ cs))
      (hr : R g (renL (idx (callIds p)) (idx (callKs p)) p.2) (subMem p.1 (callIds p) (callKs p)) r m') :
      Did c R all o s (effOf p.1 (callIds p) (callKs p ++ tksL (fs ++ as.toList.map s.get ++ cs))) (r.ren (backB (callIds p) p.1.blks.length) (backK p.1.toks.length)) (backM p.1 (callIds p) (callKs p) m')
  | ip (f : Operand) (as : Array Operand) (ts : Array TypeId) (g : FuncId) (k : Nat) (e : TypeId) (sz : Nat) (xs ys : List (List V)) (ho : o.op = .call ⟨.value f, as, ts⟩) (hf : s.get f = .fn (.func g) [] [])
      (has : as.toList.map s.get = [.osl k]) (hk : s.mem.toks[k]? = some (.live e sz xs)) (h : c.ip g e sz xs ys) : Did c R all o s (effOf s.mem [] [k]) (.tuple []) { s.mem with toks := setAt s.mem.toks k fun _ => .live e sz ys }
  | op (e : Eff) (h : evalOp c.P (coldIn o.dst all) s o.op = some e) (hok : e.ok) : Did c R all o s (clsC (coldIn o.dst all) s o.op) e.v e.mem
inductive One (c : Cfg) (R : CallRel) (all : List Oper) (o : Oper) (s : St) : Cls → V → Mem → Prop
  | skip (j : Nat) (w : Bool) (hg : o.guard = some (j, w)) (hv : guardVal all j s = .tuple [] ∨ ∃ b, guardVal all j s = .bool b ∧ b ≠ w) : One c R all o s .pure (.tuple []) s.mem
  | run (k : Cls) (v : V) (m : Mem) (hg : o.guard = none ∨ ∃ j w, o.guard = some (j, w) ∧ guardVal all j s = .bool w) (h : Did c R all o s k v m) : One c R all o s k v m

theorem Did.of {c : Cfg} {R : CallRel} {all : List Oper} {o : Oper} {s : St} {K : Cls → V → Mem → Prop} (h : stepK c R all o s K) : ∃ k v m, Did c R all o s k v m ∧ K k v m := by
  unfold stepK at h
  split at h
  · rename_i q a b ho
    unfold boolK at h
    split at h
    · rename_i t hq
      refine ⟨_, _, _, .pick q a b t ho hq, ?_⟩
      cases t with
      | true => exact h.1 rfl
      | false => exact h.2 rfl
    · exact h.elim
  · rename_i f as ts ho
    unfold callK at h
    split at h
    · rename_i g fs cs hf
      split at h
      · obtain ⟨rfl, rfl, k, e, sz, xs, ys, h3, h4, h5, h6⟩ := h
        exact ⟨_, _, _, .ip f as _ g k e sz xs ys ho hf h3 h4 h5, h6⟩
      obtain ⟨r, m', h1, h2⟩ := h
      exact ⟨_, _, _, .call f as _ g fs cs r m' ho hf _ rfl h1, h2⟩
    · exact h.elim
  · unfold effK at h
    split at h
    · rename_i e he
      exact ⟨_, _, _, .op e he h.1, h.2⟩
    · exact h.elim

/-- The steps of a list of operations. -/
def Tr (c : Cfg) (R : CallRel) (ops : Array Oper) (cs : Nat → Cls) : List Nat → St → (St → Prop) → Prop
  | [], s, K => ∃ s', (∀ t, lookE s'.env t = lookE s.env t) ∧ s'.mem = s.mem ∧ K s'
  | i :: r, s, K => ∃ o v m, ops[i]? = some o ∧ One c R ops.toList o s (cs i) v m ∧ Tr c R ops cs r ⟨putE s.env o.dst v, m⟩ K

theorem One.of {c : Cfg} {R : CallRel} {all os : List Oper} {draw : Bool} {o : Oper} {s : St} {acc : List Cls} {K : List Cls → St → Prop} (h : wpOps c R all draw (o :: os) s acc K) :
    ∃ k v m, One c R all o s k v m ∧ wpOps c R all draw os ⟨putE s.env o.dst v, m⟩ (book draw k acc) K := by
  simp only [wpOps] at h
  split at h
  · rename_i hg
    obtain ⟨k, v, m, h1, h2⟩ := Did.of h
    exact ⟨k, v, m, .run _ _ _ (.inl hg) h1, h2⟩
  · rename_i j w hg
    unfold guardK at h
    split at h
    · rename_i b hb
      by_cases hbw : b = w
      · subst hbw
        obtain ⟨k, v, m, h1, h2⟩ := Did.of (h.1 rfl)
        exact ⟨k, v, m, .run _ _ _ (.inr ⟨j, b, hg, hb⟩) h1, h2⟩
      · exact ⟨_, _, _, .skip j w hg (.inr ⟨b, hb, hbw⟩), h.2 hbw⟩
    · rename_i hb
      exact ⟨_, _, _, .skip j w hg (.inl hb), h⟩
    · exact h.elim

theorem Tr.cs {c : Cfg} {R : CallRel} {ops : Array Oper} : ∀ (r : List Nat) (s : St) (K : St → Prop) (cs cs' : Nat → Cls), (∀ j ∈ r, cs j = cs' j) → Tr c R ops cs r s K → Tr c R ops cs' r s K := by
  intro r
  induction r with
  | nil => exact fun _ _ _ _ _ h => h
  | cons j r ih =>
    rintro s K cs cs' hh ⟨o, v, m, a1, a2, a3⟩
    exact ⟨o, v, m, a1, by rw [← hh j (by simp)]; exact a2, ih _ _ _ _ (fun x hx => hh x (by simp [hx])) a3⟩
theorem Tr.of {c : Cfg} {R : CallRel} (ops : Array Oper) {draw : Bool} {K : List Cls → St → Prop} : ∀ (os : List Oper) (i : Nat) (s : St) (acc : List Cls), ops.toList.drop i = os → wpOps c R ops.toList draw os s acc K →
    ∃ (l acc' : List Cls), l.length = os.length ∧ Tr c R ops (fun j => (l[j - i]?).getD .pure) (List.range' i os.length) s (K acc') ∧ (draw = true → acc' = l.reverse ++ acc)
  | [], i, s, acc, hd, h => ⟨[], acc, rfl, ⟨s, fun _ => rfl, rfl, by simpa [wpOps] using h⟩, fun _ => rfl⟩
  | o :: os, i, s, acc, hd, h => by
    obtain ⟨k, v, m, h1, h2⟩ := One.of h
    have hget : ops[i]? = some o := by
      have : (ops.toList.drop i)[0]? = some o := by rw [hd]; rfl
      rw [List.getElem?_drop] at this
      simpa using this
    have hd' : ops.toList.drop (i + 1) = os := by
      rw [← List.drop_drop, hd]
      rfl
    obtain ⟨l, acc', hl, h3, h4⟩ := Tr.of ops os (i + 1) _ _ hd' h2
    refine ⟨k :: l, acc', by simp [hl], ?_, fun hdr => ?_⟩
    · simp only [List.length_cons, List.range'_succ]
      refine ⟨o, v, m, hget, by simpa using h1, Tr.cs _ _ _ _ _ (fun j hj => ?_) h3⟩
      have : i + 1 ≤ j := (List.mem_range'_1.1 hj).1
      have e : j - i = (j - (i + 1)) + 1 := by omega
      rw [e, List.getElem?_cons_succ]
    · rw [h4 hdr, hdr]
      simp [book]

/-! Frames -/
theorem putMany_len : ∀ (ids : List Nat) (bs cs : List (List V)), (putMany bs ids cs).length = bs.length
  | [], bs, cs => by simp [putMany]
  | i :: r, bs, [] => by simp [putMany]
  | i :: r, bs, c :: cs => by simp [putMany, putMany_len r]
theorem putMany_get : ∀ (ids : List Nat) (bs cs : List (List V)) (x : Nat), x ∉ ids → (putMany bs ids cs)[x]? = bs[x]?
  | [], bs, cs, x, h => by simp [putMany]
  | i :: r, bs, [], x, h => by simp [putMany]
  | i :: r, bs, c :: cs, x, h => by
    simp only [List.mem_cons, not_or] at h
    rw [putMany, putMany_get r _ _ x h.2, getElem?_setAt, if_neg h.1]
theorem killAll_len : ∀ (ks : List Nat) (ts : List Tok), (killAll ts ks).length = ts.length
  | [], ts => rfl
  | k :: r, ts => by rw [killAll, killAll_len r]; simp
theorem killAll_get : ∀ (ks : List Nat) (ts : List Tok) (x : Nat), x ∉ ks → (killAll ts ks)[x]? = ts[x]?
  | [], ts, x, h => rfl
  | k :: r, ts, x, h => by
    simp only [List.mem_cons, not_or] at h
    rw [killAll, killAll_get r _ x h.2, getElem?_setAt, if_neg h.1]
theorem callP_frame (c : Cfg) (g : FuncId) (m : Mem) (vs : List V) : (callP c g m vs).1.blks = m.blks ∧ (callP c g m vs).1.toks.length = m.toks.length ∧ ∀ x, x ∉ tksL vs → (callP c g m vs).1.toks[x]? = m.toks[x]? := by
  unfold callP
  split
  · exact ⟨rfl, rfl, fun _ _ => rfl⟩
  · refine ⟨by simp only [settleL, freezeM_blks, freeze_blks], by simp only [settleL, freezeM_toks, freeze_len], fun x hx => ?_⟩
    simp only [settleL, freezeM_toks]
    exact freeze_toks _ _ _ hx

theorem Did.keeps {c : Cfg} {R : CallRel} {all : List Oper} {o : Oper} {s : St} {k : Cls} {v : V} {m : Mem} (h : Did c R all o s k v m) : k.keeps s.mem m := by
  cases h with
  | pick q a b t ho hq => rfl
  | op e h hok => exact evalOp_keepsC h
  | ip f as ts g k e sz xs ys ho hf has hk h =>
    simp only [effOf, Cls.keeps, List.mem_singleton]
    exact ⟨fun _ _ _ => trivial, fun x hx hn => by rw [getElem?_setAt, if_neg hn]⟩
  | call f as ts g fs cs r m' ho hf p hp hr =>
    obtain ⟨f1, f2, f3⟩ := callP_frame c g s.mem (fs ++ as.toList.map s.get ++ cs)
    rw [← hp] at f1 f2 f3
    simp only [effOf, Cls.keeps, backM, List.mem_append, not_or]
    refine ⟨fun x hx hn => ?_, fun x hx hn => ?_⟩
    · rw [append_get _ _ x (by rw [putMany_len]; exact hx), putMany_get _ _ _ x hn, f1]
    · rw [append_get _ _ x (by rw [killAll_len]; exact hx), killAll_get _ _ x hn.1]
      exact f3 x (by simpa using hn.2)
theorem One.keeps {c : Cfg} {R : CallRel} {all : List Oper} {o : Oper} {s : St} {k : Cls} {v : V} {m : Mem} (h : One c R all o s k v m) : k.keeps s.mem m := by
  cases h with
  | skip => rfl
  | run _ _ _ _ h => exact h.keeps

/-- In another memory that is alike where the operation looks. -/
theorem Did.near {c : Cfg} {R : CallRel} {all : List Oper} {o : Oper} {s : St} {k : Cls} {v : V} {m : Mem} (h : Did c R all o s k v m) (hc : k.isEff = false) (m2 : Mem) (hn : k.near s.mem m2) : m = s.mem ∧ Did c R all o ⟨s.env, m2⟩ k v m2 := by
  have hget : (⟨s.env, m2⟩ : St).get = s.get := by
    funext x
    cases x <;> rfl
  cases h with
  | pick q a b t ho hq =>
    refine ⟨rfl, ?_⟩
    have := Did.pick (c := c) (R := R) (all := all) (o := o) (s := ⟨s.env, m2⟩) q a b t ho (by rw [hget]; exact hq)
    rwa [hget] at this
  | op e h hok =>
    obtain ⟨h1, h2, h3⟩ := evalOp_nearC h hc m2 hn
    refine ⟨h1, ?_⟩
    have := Did.op (c := c) (R := R) (all := all) (o := o) (s := ⟨s.env, m2⟩) ⟨e.ok, e.v, m2⟩ h2 hok
    rwa [h3] at this
  | call f as ts g fs cs r m' ho hf p hp hr => simp [effOf, Cls.isEff] at hc
  | ip f as ts g k e sz xs ys ho hf has hk h => simp [effOf, Cls.isEff] at hc
theorem One.near {c : Cfg} {R : CallRel} {all : List Oper} {o : Oper} {s : St} {k : Cls} {v : V} {m : Mem} (h : One c R all o s k v m) (hc : k.isEff = false) (m2 : Mem) (hn : k.near s.mem m2) : m = s.mem ∧ One c R all o ⟨s.env, m2⟩ k v m2 := by
  cases h with
  | skip j w hg hv => exact ⟨rfl, .skip j w hg hv⟩
  | run _ _ _ hg h =>
    obtain ⟨h1, h2⟩ := h.near hc m2 hn
    exact ⟨h1, .run _ _ _ hg h2⟩

/-- With other temporaries that the operation does not read. -/
theorem Did.congr {c : Cfg} {R : CallRel} {all : List Oper} {o : Oper} {s s' : St} {k : Cls} {v : V} {m : Mem} (h : Did c R all o s k v m) (hm : s.mem = s'.mem) (hx : ∀ x ∈ o.op.operands, s.get x = s'.get x) : Did c R all o s' k v m := by
  cases h with
  | pick q a b t ho hq =>
    rw [ho] at hx
    have := Did.pick (c := c) (R := R) (all := all) (o := o) (s := s') q a b t ho (by rw [← hx q (by simp [Op.operands])]; exact hq)
    rwa [← hx a (by simp [Op.operands]), ← hx b (by simp [Op.operands]), ← hm] at this
  | op e h hok =>
    have h1 := (evalOp_congr (P := c.P) (cold := coldIn o.dst all) o.op hm hx).1
    have h2 := clsC_congr c.P (cold := coldIn o.dst all) o.op hm hx
    rw [h2]
    exact .op e (by rw [← h1]; exact h) hok
  | ip f as ts g k e sz xs ys ho hf has hk h =>
    rw [ho] at hx
    have ha : as.toList.map s.get = as.toList.map s'.get := List.map_congr_left fun x hxm => hx x (by
      have : x ∈ as := Array.mem_toList_iff.1 hxm
      simp [Op.operands, Call.operands, this])
    have hf' : s'.get f = .fn (.func g) [] [] := by rw [← hx f (by simp [Op.operands, Call.operands])]; exact hf
    rw [hm]
    exact Did.ip f as ts g k e sz xs ys ho hf' (by rw [← ha]; exact has) (by rw [← hm]; exact hk) h
  | call f as ts g fs cs r m' ho hf p hp hr =>
    rw [ho] at hx
    have ha : as.toList.map s.get = as.toList.map s'.get := List.map_congr_left fun x hxm => hx x (by
      have : x ∈ as := Array.mem_toList_iff.1 hxm
      simp [Op.operands, Call.operands, this])
    have hf' : s'.get f = .fn (.func g) fs cs := by rw [← hx f (by simp [Op.operands, Call.operands])]; exact hf
    have := Did.call (c := c) (R := R) (all := all) (o := o) (s := s') f as ts g fs cs r m' ho hf' p (by rw [hp, ha, hm]) hr
    rwa [← ha] at this
theorem lookE_put_ne {env : List (Nat × V)} {d : Option Nat} {v : V} {t : Nat} (h : d ≠ some t) : lookE (putE env d v) t = lookE env t := by
  cases d with
  | none => rfl
  | some x =>
    simp only [putE, lookE]
    rw [if_neg (fun e => h (by rw [e]))]
theorem get_put_ne {env : List (Nat × V)} {m m2 : Mem} {d : Option Nat} {v : V} {x : Operand} (h : ∀ t, x = .tmp t → d ≠ some t) : (⟨putE env d v, m⟩ : St).get x = (⟨env, m2⟩ : St).get x := by
  cases x with
  | tmp t => exact lookE_put_ne (h t rfl)
  | _ => rfl
theorem mem_has : ∀ {l : List Nat} {x : Nat}, has l x = true ↔ x ∈ l
  | [], x => by simp [has]
  | y :: r, x => by
    simp only [has, List.mem_cons]
    split
    · rename_i h
      simp [h]
    · rename_i h
      rw [mem_has (l := r)]
      constructor
      · exact .inr
      · rintro (h' | h')
        · exact absurd h'.symm h
        · exact h'
theorem guardVal_congr {all : List Oper} {j : Nat} {s s' : St} (h : ∀ d, ((all[j]?).bind (·.dst)) = some d → lookE s.env d = lookE s'.env d) : guardVal all j s = guardVal all j s' := by
  unfold guardVal
  cases ho : all[j]? with
  | none => rfl
  | some o =>
    simp only
    cases hd : o.dst with
    | none => rfl
    | some d => exact h d (by simp [ho, hd])
/-- An operation under a put that it does not see. -/
theorem One.put {c : Cfg} {R : CallRel} {ops : Array Oper} {o : Oper} {env : List (Nat × V)} {mem : Mem} {d : Option Nat} {u : V} (hd : ∀ t, d = some t → t ∉ reads ops o) {k : Cls} {v : V} {m : Mem} :
    One c R ops.toList o ⟨putE env d u, mem⟩ k v m ↔ One c R ops.toList o ⟨env, mem⟩ k v m := by
  have hops : ∀ x ∈ o.op.operands, (⟨putE env d u, mem⟩ : St).get x = (⟨env, mem⟩ : St).get x := fun x hx => get_put_ne fun t ht hdt => hd t hdt (by
    subst ht
    exact List.mem_append_left _ (List.mem_filterMap.2 ⟨.tmp t, by simpa using hx, rfl⟩))
  have hgd : ∀ j w, o.guard = some (j, w) → guardVal ops.toList j ⟨putE env d u, mem⟩ = guardVal ops.toList j ⟨env, mem⟩ := fun j w hg => guardVal_congr fun t ht => lookE_put_ne fun hdt => hd t hdt (by
    unfold reads
    refine List.mem_append_right _ ?_
    rw [hg]
    simp only [Array.getElem?_toList] at ht
    simp [ht])
  constructor
  · rintro (⟨j, w, hg, hv⟩ | ⟨_, _, _, hg, h⟩)
    · exact .skip j w hg (by rw [← hgd j w hg]; exact hv)
    · refine .run _ _ _ ?_ (h.congr rfl hops)
      rcases hg with hg | ⟨j, w, hg, hv⟩
      · exact .inl hg
      · exact .inr ⟨j, w, hg, by rw [← hgd j w hg]; exact hv⟩
  · rintro (⟨j, w, hg, hv⟩ | ⟨_, _, _, hg, h⟩)
    · exact .skip j w hg (by rw [hgd j w hg]; exact hv)
    · refine .run _ _ _ ?_ (h.congr rfl fun x hx => (hops x hx).symm)
      rcases hg with hg | ⟨j, w, hg, hv⟩
      · exact .inl hg
      · exact .inr ⟨j, w, hg, by rw [hgd j w hg]; exact hv⟩
/-- The steps from a state that answers alike. -/
theorem One.same {c : Cfg} {R : CallRel} {all : List Oper} {o : Oper} {s s' : St} (he : ∀ t, lookE s.env t = lookE s'.env t) (hm : s.mem = s'.mem) {k : Cls} {v : V} {m : Mem} (h : One c R all o s k v m) : One c R all o s' k v m := by
  have hget : ∀ x, s.get x = s'.get x := fun x => by
    cases x with
    | tmp t => exact he t
    | _ => rfl
  have hgd : ∀ j, guardVal all j s = guardVal all j s' := fun j => guardVal_congr fun d _ => he d
  rcases h with ⟨j, w, hg, hv⟩ | ⟨_, _, _, hg, h⟩
  · rw [hm]
    exact .skip j w hg (by rw [← hgd]; exact hv)
  · refine .run _ _ _ ?_ (h.congr hm fun x _ => hget x)
    rcases hg with hg | ⟨j, w, hg, hv⟩
    · exact .inl hg
    · exact .inr ⟨j, w, hg, by rw [← hgd]; exact hv⟩
theorem lookE_put {env env' : List (Nat × V)} (h : ∀ t, lookE env t = lookE env' t) (d : Option Nat) (v : V) : ∀ t, lookE (putE env d v) t = lookE (putE env' d v) t := fun t => by
  cases d with
  | none => exact h t
  | some x =>
    simp only [putE, lookE]
    split
    · rfl
    · exact h t
theorem Tr.same {c : Cfg} {R : CallRel} {ops : Array Oper} {cs : Nat → Cls} {K : St → Prop} : ∀ (l : List Nat) {s s' : St}, (∀ t, lookE s.env t = lookE s'.env t) → s.mem = s'.mem → Tr c R ops cs l s K → Tr c R ops cs l s' K
  | [], s, s', he, hm, ⟨x, h1, h2, h3⟩ => ⟨x, fun t => (h1 t).trans (he t), h2.trans hm, h3⟩
  | i :: r, s, s', he, hm, ⟨o, v, m, h1, h2, h3⟩ => ⟨o, v, m, h1, h2.same he hm, Tr.same r (s := ⟨putE s.env o.dst v, m⟩) (s' := ⟨putE s'.env o.dst v, m⟩) (lookE_put he _ _) rfl h3⟩

theorem meets_false : ∀ {l r : List Nat}, meets l r = false → ∀ x ∈ l, x ∉ r
  | [], r, h, x, hx => by simp at hx
  | y :: l, r, h, x, hx => by
    simp only [meets, Bool.or_eq_false_iff] at h
    rcases List.mem_cons.1 hx with rfl | hx
    · intro hm
      rw [mem_has.2 hm] at h
      simp at h
    · exact meets_false h.2 x hx
theorem over_false {n : Nat} : ∀ {l : List Nat}, over n l = false → ∀ x ∈ l, x < n
  | [], h, x, hx => by simp at hx
  | y :: l, h, x, hx => by
    simp only [over, Bool.or_eq_false_iff, decide_eq_false_iff_not] at h
    rcases List.mem_cons.1 hx with rfl | hx
    · omega
    · exact over_false h.2 x hx
/-- An operation that changes looks past what another changes. -/
theorem near_of_keeps {k k' : Cls} {m m' : Mem} (h : k.keeps m m') (hk : k'.isEff = false) (hc : k.clash k' = false) : k'.near m m' ∧ k'.near m' m := by
  cases k' with
  | pure => exact ⟨trivial, trivial⟩
  | eff => simp [Cls.isEff] at hk
  | rd b t =>
    cases k with
    | pure =>
      obtain rfl : m' = m := h
      exact ⟨⟨fun _ _ => rfl, fun _ _ => rfl⟩, fun _ _ => rfl, fun _ _ => rfl⟩
    | rd _ _ =>
      obtain rfl : m' = m := h
      exact ⟨⟨fun _ _ => rfl, fun _ _ => rfl⟩, fun _ _ => rfl, fun _ _ => rfl⟩
    | eff c l nb nt =>
      simp only [Cls.clash, Bool.or_eq_false_iff] at hc
      obtain ⟨⟨⟨c1, c2⟩, c3⟩, c4⟩ := hc
      have e1 : ∀ x ∈ b, m'.blks[x]? = m.blks[x]? := fun x hx => h.1 x (over_false c3 x hx) (meets_false c1 x hx)
      have e2 : ∀ x ∈ t, m'.toks[x]? = m.toks[x]? := fun x hx => h.2 x (over_false c4 x hx) (meets_false c2 x hx)
      exact ⟨⟨e1, e2⟩, fun x hx => (e1 x hx).symm, fun x hx => (e2 x hx).symm⟩
theorem clash_comm (k k' : Cls) : k.clash k' = k'.clash k := by cases k <;> cases k' <;> rfl

/-- Two operations that don't meet, in the other order. -/
theorem Tr.swap {c : Cfg} {R : CallRel} {ops : Array Oper} {cs : Nat → Cls} {K : St → Prop} {j i : Nat} {r : List Nat} {s : St} (h : Tr c R ops cs (j :: i :: r) s K)
    (h1 : ∀ oj oi, ops[j]? = some oj → ops[i]? = some oi → (∀ d, oj.dst = some d → d ∉ reads ops oi ∧ oi.dst ≠ some d) ∧ ∀ d, oi.dst = some d → d ∉ reads ops oj) (hcl : (cs j).clash (cs i) = false) :
    Tr c R ops cs (i :: j :: r) s K := by
  obtain ⟨oj, vj, mj, hj, dj, oi, vi, mi, hi, di, hr⟩ := h
  obtain ⟨a1, a2⟩ := h1 oj oi hj hi
  have di' : One c R ops.toList oi ⟨s.env, mj⟩ (cs i) vi mi := (One.put fun d hd => (a1 d hd).1).1 di
  have kj := dj.keeps
  have ki := di'.keeps
  -- the memories
  have key : ∃ m1, One c R ops.toList oi ⟨s.env, s.mem⟩ (cs i) vi m1 ∧ One c R ops.toList oj ⟨s.env, m1⟩ (cs j) vj mi := by
    cases hej : (cs j).isEff with
    | false =>
      have hmj : mj = s.mem := by
        cases hc : cs j <;> simp_all [Cls.keeps, Cls.isEff]
      subst hmj
      refine ⟨mi, di', ?_⟩
      obtain ⟨n1, n2⟩ := near_of_keeps ki hej (by rw [clash_comm]; exact hcl)
      exact (dj.near hej mi n1).2
    | true =>
      have hei : (cs i).isEff = false := by
        cases hc : cs i <;> cases hc' : cs j <;> simp_all [Cls.isEff, Cls.clash]
      have hmi : mi = mj := by
        cases hc : cs i <;> simp_all [Cls.keeps, Cls.isEff]
      subst hmi
      obtain ⟨n1, n2⟩ := near_of_keeps kj hei hcl
      exact ⟨s.mem, (di'.near hei s.mem n2).2, dj⟩
  obtain ⟨m1, e1, e2⟩ := key
  have hlook : ∀ t, lookE (putE (putE s.env oj.dst vj) oi.dst vi) t = lookE (putE (putE s.env oi.dst vi) oj.dst vj) t := fun t => by
    cases hdj : oj.dst with
    | none => rfl
    | some d =>
      cases hdi : oi.dst with
      | none => rfl
      | some d' =>
        have hne : d ≠ d' := fun he => (a1 d hdj).2 (by rw [hdi, he])
        simp only [putE, lookE]
        by_cases h1 : d' = t
        · rw [if_pos h1, if_neg (fun h2 => hne (h2.trans h1.symm)), if_pos h1]
        · rw [if_neg h1, if_neg h1]
  exact ⟨oi, vi, m1, hi, e1, oj, vj, mi, hj, (One.put fun d hd => a2 d hd).2 e2, Tr.same r (s := ⟨putE (putE s.env oj.dst vj) oi.dst vi, mi⟩) (s' := ⟨putE (putE s.env oi.dst vi) oj.dst vj, mi⟩) hlook rfl hr⟩
end Go.Vm

namespace Go.Vm
open Go

theorem renL_get (p q : Nat → Option Nat) : ∀ (vs : List V) (i : Nat), (renL p q vs)[i]? = (vs[i]?).map (V.ren p q)
  | [], i => by simp [renL]
  | v :: r, 0 => by simp [renL]
  | v :: r, i + 1 => by simp [renL, renL_get p q r i]
@[simp] theorem renL_length (p q : Nat → Option Nat) : ∀ (vs : List V), (renL p q vs).length = vs.length
  | [] => rfl
  | v :: r => by simp [renL, renL_length p q r]
theorem DR.ren {w : World} {C : Nat → Prop} (p q : Nat → Option Nat) {v : V} {mv : Value} (h : DR w C v mv) : DR w C (v.ren p q) mv := by
  induction h with
  | int k n => exact .int k n
  | bool b => exact .bool b
  | str s => exact .str s
  | nilsl => exact .nilsl
  | sl0 A cap => exact .sl0 A cap
  | sl xs g off cap sz arr e fr h1 h2 h3 h4 h5 h6 h7 ih => exact .sl xs g off cap sz arr e fr h1 h2 h3 h4 h5 h6 h7
  | nilp => exact .nilp
  | nilfn => exact .nilfn
  | nili => exact .nili
  | iptr cs g off arr e fr h1 h2 h5 h6 ih => exact .iptr cs g off arr e fr h1 h2 h5 h6
  | fn f fs cs A B hA hB h1 h2 ih1 ih2 =>
    refine .fn f _ _ A B (by simpa using hA) (by simpa using hB) (fun i u hu => ?_) (fun i u hu => ?_)
    · rw [renL_get, Option.map_eq_some_iff] at hu
      obtain ⟨x, hx, rfl⟩ := hu
      exact ih1 i x hx
    · rw [renL_get, Option.map_eq_some_iff] at hu
      obtain ⟨x, hx, rfl⟩ := hu
      exact ih2 i x hx
  | agg cs A hA h1 ih =>
    refine .agg _ A (by simpa using hA) (fun i u hu => ?_)
    rw [renL_get, Option.map_eq_some_iff] at hu
    obtain ⟨x, hx, rfl⟩ := hu
    exact ih i x hx
  | tuple cs A hA h1 ih =>
    refine .tuple _ A (by simpa using hA) (fun i u hu => ?_)
    rw [renL_get, Option.map_eq_some_iff] at hu
    obtain ⟨x, hx, rfl⟩ := hu
    exact ih i x hx
  | iface t v mv h ih => exact .iface t _ mv ih
  | imap es r mes clock h1 h2 h3 h4 h5 ih4 ih5 => exact .imap es r mes clock h1 h2 h3 h4 h5

/-- What a renaming has to keep. -/
structure Ren (g g' : Gh) (p q : Nat → Option Nat) : Prop where
  b : ∀ b c, p b = some c → b < g.nb → c < g'.nb ∧ g'.m c = g.m b
  t : ∀ k c, q k = some c → k < g.nt → c < g'.nt ∧ g'.S c = g.S k ∧ g'.B c = g.B k ∧ g'.Z c = g.Z k
  C : ∀ h, g.C h → g'.C h
theorem VR.ren {w : World} {g g' : Gh} {p q : Nat → Option Nat} (hr : Ren g g' p q) {v : V} {mv : Value} (h : VR w g v mv) : VR w g' (v.ren p q) mv := by
  induction h with
  | data h => exact .data ((h.ren p q).mono hr.C fun _ _ => rfl)
  | ptr b off h =>
    simp only [V.ren]
    split
    · rename_i c hc
      obtain ⟨h1, h2⟩ := hr.b b c hc h
      rw [← h2]
      exact .ptr c off h1
    · exact .junk _
  | osl k h hs =>
    simp only [V.ren]
    split
    · rename_i c hc
      obtain ⟨h1, h2, _⟩ := hr.t k c hc h
      rw [← h2] at hs ⊢
      exact .osl c h1 hs
    · exact .junk _
  | eptr k i off h =>
    simp only [V.ren]
    split
    · rename_i c hc
      obtain ⟨h1, _, h2, h3⟩ := hr.t k c hc h
      rw [← h2, ← h3]
      exact .eptr c i off h1
    · exact .junk _
  | omap k h => exact .junk _
  | fn f fs cs A B hA hB h1 h2 ih1 ih2 =>
    refine .fn f _ _ A B (by simpa using hA) (by simpa using hB) (fun i u hu => ?_) (fun i u hu => ?_)
    · rw [renL_get, Option.map_eq_some_iff] at hu
      obtain ⟨x, hx, rfl⟩ := hu
      exact ih1 i x hx
    · rw [renL_get, Option.map_eq_some_iff] at hu
      obtain ⟨x, hx, rfl⟩ := hu
      exact ih2 i x hx
  | agg cs A hA h1 ih =>
    refine .agg _ A (by simpa using hA) (fun i u hu => ?_)
    rw [renL_get, Option.map_eq_some_iff] at hu
    obtain ⟨x, hx, rfl⟩ := hu
    exact ih i x hx
  | tuple cs A hA h1 ih =>
    refine .tuple _ A (by simpa using hA) (fun i u hu => ?_)
    rw [renL_get, Option.map_eq_some_iff] at hu
    obtain ⟨x, hx, rfl⟩ := hu
    exact ih i x hx
  | iface t v mv h ih => exact .iface t _ mv ih
  | junk mv => exact .junk mv
theorem BOk.ren {w : World} {g g' : Gh} {p q : Nat → Option Nat} (hr : Ren g g' p q) {b c : Nat} (hm : g'.m c = g.m b) {cs : List V} (h : BOk w g b cs) : BOk w g' c (renL p q cs) := by
  obtain ⟨arr, e, h1, h2, h3⟩ := h
  refine ⟨arr, e, by rw [hm]; exact h1, by simpa using h2, fun i v hv => ?_⟩
  rw [renL_get, Option.map_eq_some_iff] at hv
  obtain ⟨x, hx, rfl⟩ := hv
  exact (h3 i x hx).ren hr
theorem TOk.ren {w : World} {g g' : Gh} (hC : ∀ h, g.C h → g'.C h) {k c : Nat} (hS : g'.S c = g.S k) (hB : g'.B c = g.B k) (hZ : g'.Z c = g.Z k) {t : Tok} (h : TOk w g k t) : TOk w g' c t := by
  cases t with
  | live e sz xs =>
    obtain ⟨h1, h2, h3, h4⟩ := h
    refine ⟨h1, by rw [hZ]; exact h2, h3, ?_⟩
    rcases h4 with ⟨h4, h5⟩ | ⟨cap, arr, q1, q2, q3, q4, q5, q6, q7⟩
    · exact .inl ⟨by rw [hS]; exact h4, h5⟩
    · exact .inr ⟨cap, arr, by rw [hS, hB]; exact q1, by rw [hB]; exact q2, q3, q4, q5, fun i x j u hx hu => (q6 i x j u hx hu).mono hC fun _ _ => rfl, q7⟩
  | froz xs =>
    show DR w g'.C (.sl xs) (g'.S c)
    rw [hS]
    exact DR.mono hC (fun _ _ => rfl) h
  | dead => trivial

/-! Lists of names -/
theorem idx_nth : ∀ {l : List Nat} {b c : Nat}, idx l b = some c → c < l.length ∧ nth l c = b
  | [], b, c, h => by simp [idx] at h
  | x :: r, b, c, h => by
    simp only [idx] at h
    split at h
    · injection h with h
      subst h
      rename_i e
      exact ⟨by simp, e⟩
    · rw [Option.map_eq_some_iff] at h
      obtain ⟨i, hi, rfl⟩ := h
      obtain ⟨h1, h2⟩ := idx_nth hi
      exact ⟨by simp only [List.length_cons]; omega, h2⟩
theorem nth_get : ∀ {l : List Nat} {c : Nat}, c < l.length → l[c]? = some (nth l c)
  | [], c, h => by simp at h
  | x :: r, 0, h => rfl
  | x :: r, c + 1, h => by
    rw [List.getElem?_cons_succ, nth_get (by simp only [List.length_cons] at h; omega)]
    rfl
theorem nth_mem {l : List Nat} {c : Nat} (h : c < l.length) : nth l c ∈ l := List.mem_of_getElem? (nth_get h)
theorem nth_inj {l : List Nat} (hn : l.Nodup) {c d : Nat} (hc : c < l.length) (hd : d < l.length) (h : nth l c = nth l d) : c = d := by
  have h1 := nth_get hc
  have h2 := nth_get hd
  rw [h] at h1
  exact (List.getElem?_inj hc hn).1 (h1.trans h2.symm)
theorem mem_nth {l : List Nat} {b : Nat} (h : b ∈ l) : ∃ c, c < l.length ∧ nth l c = b := by
  obtain ⟨c, hc⟩ := List.getElem?_of_mem h
  have hl := (List.getElem?_eq_some_iff.1 hc).1
  refine ⟨c, hl, ?_⟩
  rw [nth_get hl] at hc
  simpa using hc
theorem dedup_mem : ∀ (l seen : List Nat) (x : Nat), x ∈ dedup seen l → x ∈ seen ∨ x ∈ l
  | [], seen, x, h => .inl h
  | y :: r, seen, x, h => by
    simp only [dedup] at h
    split at h
    · rcases dedup_mem r seen x h with h | h
      · exact .inl h
      · exact .inr (by simp [h])
    · rcases dedup_mem r _ x h with h | h
      · rcases List.mem_append.1 h with h | h
        · exact .inl h
        · exact .inr (by simp at h; simp [h])
      · exact .inr (by simp [h])
theorem nodup_snoc {l : List Nat} {x : Nat} (h : l.Nodup) (hx : x ∉ l) : (l ++ [x]).Nodup := by
  rw [List.nodup_append]
  exact ⟨h, by simp, fun a ha b hb => by simp at hb; subst hb; exact fun e => hx (e ▸ ha)⟩
theorem dedup_nodup : ∀ (l seen : List Nat), seen.Nodup → (dedup seen l).Nodup
  | [], seen, h => h
  | y :: r, seen, h => by
    simp only [dedup]
    split
    · exact dedup_nodup r seen h
    · rename_i hy
      exact dedup_nodup r _ (nodup_snoc h fun hm => hy (mem_has.2 hm))
theorem reach_mem (bs : List (List V)) : ∀ (n : Nat) (seen todo : List Nat) (x : Nat), x ∈ reach bs n seen todo → x ∈ seen ∨ x ∈ todo ∨ ∃ b, x ∈ ptrsL (blkAt bs b)
  | 0, seen, todo, x, h => by simp only [reach] at h; exact .inl h
  | n + 1, seen, [], x, h => by simp only [reach] at h; exact .inl h
  | n + 1, seen, b :: todo, x, h => by
    simp only [reach] at h
    split at h
    · rcases reach_mem bs n _ _ x h with h | h | h
      · exact .inl h
      · exact .inr (.inl (by simp [h]))
      · exact .inr (.inr h)
    · rcases reach_mem bs n _ _ x h with h | h | h
      · rcases List.mem_append.1 h with h | h
        · exact .inl h
        · exact .inr (.inl (by simp at h; simp [h]))
      · rcases List.mem_append.1 h with h | h
        · exact .inr (.inl (by simp [h]))
        · exact .inr (.inr ⟨b, h⟩)
      · exact .inr (.inr h)
theorem reach_nodup (bs : List (List V)) : ∀ (n : Nat) (seen todo : List Nat), seen.Nodup → (reach bs n seen todo).Nodup
  | 0, seen, todo, h => by simp only [reach]; exact h
  | n + 1, seen, [], h => by simp only [reach]; exact h
  | n + 1, seen, b :: todo, h => by
    simp only [reach]
    split
    · exact reach_nodup bs n _ _ h
    · rename_i hb
      exact reach_nodup bs n _ _ (nodup_snoc h fun hm => hb (mem_has.2 hm))
theorem reach_prefix (bs : List (List V)) : ∀ (n : Nat) (seen todo : List Nat), seen <+: reach bs n seen todo
  | 0, seen, todo => by simp only [reach]; exact List.prefix_refl _
  | n + 1, seen, [] => by simp only [reach]; exact List.prefix_refl _
  | n + 1, seen, b :: todo => by
    simp only [reach]
    split
    · exact reach_prefix bs n _ _
    · exact (List.prefix_append _ _).trans (reach_prefix bs n _ _)
theorem reach_first (bs : List (List V)) : ∀ (l : List Nat) (n : Nat) (seen todo : List Nat), (seen ++ l).Nodup → l.length ≤ n → ∃ n' todo', reach bs n seen (l ++ todo) = reach bs n' (seen ++ l) todo'
  | [], n, seen, todo, h, hn => ⟨n, todo, by simp⟩
  | b :: l, 0, seen, todo, h, hn => by simp at hn
  | b :: l, n + 1, seen, todo, h, hn => by
    have hb : ¬ has seen b = true := fun hh => by
      have := mem_has.1 hh
      rw [List.nodup_append] at h
      exact h.2.2 b this b (by simp) rfl
    obtain ⟨n', t', e⟩ := reach_first bs l n (seen ++ [b]) (todo ++ ptrsL (blkAt bs b)) (by simpa using h) (by simpa using hn)
    refine ⟨n', t', ?_⟩
    simp only [List.cons_append, reach, if_neg hb, List.append_assoc]
    rw [e]
    simp

theorem ptrsL_mem {vs : List V} {b : Nat} : b ∈ ptrsL vs ↔ ∃ v ∈ vs, b ∈ v.ptrs := by
  induction vs with
  | nil => simp [ptrsL]
  | cons v r ih => simp [ptrsL, ih]
theorem tksL_mem {vs : List V} {b : Nat} : b ∈ tksL vs ↔ ∃ v ∈ vs, b ∈ v.tks := by
  induction vs with
  | nil => simp [tksL]
  | cons v r ih => simp [tksL, ih]
theorem tksB_mem {bs : List (List V)} {k : Nat} : k ∈ tksB bs ↔ ∃ cs ∈ bs, k ∈ tksL cs := by
  induction bs with
  | nil => simp [tksB]
  | cons v r ih => simp [tksB, ih]
theorem DR.names {w : World} {C : Nat → Prop} {v : V} {mv : Value} (h : DR w C v mv) : v.ptrs = [] ∧ v.tks = [] := by
  have nil : ∀ (l : List Nat), (∀ x, x ∉ l) → l = [] := fun l h => List.eq_nil_iff_forall_not_mem.2 h
  have lst : ∀ (vs : List V), (∀ (i : Nat) (u : V), vs[i]? = some u → u.ptrs = [] ∧ u.tks = []) → ptrsL vs = [] ∧ tksL vs = [] := fun vs h => by
    refine ⟨nil _ fun x hx => ?_, nil _ fun x hx => ?_⟩
    · obtain ⟨u, hu, hxu⟩ := ptrsL_mem.1 hx
      obtain ⟨i, hi⟩ := List.getElem?_of_mem hu
      rw [(h i u hi).1] at hxu
      simp at hxu
    · obtain ⟨u, hu, hxu⟩ := tksL_mem.1 hx
      obtain ⟨i, hi⟩ := List.getElem?_of_mem hu
      rw [(h i u hi).2] at hxu
      simp at hxu
  induction h with
  | fn f fs cs A B hA hB h1 h2 ih1 ih2 =>
    obtain ⟨a1, a2⟩ := lst fs ih1
    obtain ⟨b1, b2⟩ := lst cs ih2
    simp [V.ptrs, V.tks, a1, a2, b1, b2]
  | agg cs A hA h1 ih => simpa [V.ptrs, V.tks] using lst cs ih
  | tuple cs A hA h1 ih => simpa [V.ptrs, V.tks] using lst cs ih
  | iface t v mv h ih => simpa [V.ptrs, V.tks] using ih
  | _ => exact ⟨rfl, rfl⟩
theorem VR.names {w : World} {g : Gh} {v : V} {mv : Value} (h : VR w g v mv) : (∀ b ∈ v.ptrs, b < g.nb) ∧ ∀ k ∈ v.tks, k < g.nt := by
  have lst : ∀ (vs : List V), (∀ (i : Nat) (u : V), vs[i]? = some u → (∀ b ∈ u.ptrs, b < g.nb) ∧ ∀ k ∈ u.tks, k < g.nt) → (∀ b ∈ ptrsL vs, b < g.nb) ∧ ∀ k ∈ tksL vs, k < g.nt := fun vs h => by
    refine ⟨fun x hx => ?_, fun x hx => ?_⟩
    · obtain ⟨u, hu, hxu⟩ := ptrsL_mem.1 hx
      obtain ⟨i, hi⟩ := List.getElem?_of_mem hu
      exact (h i u hi).1 x hxu
    · obtain ⟨u, hu, hxu⟩ := tksL_mem.1 hx
      obtain ⟨i, hi⟩ := List.getElem?_of_mem hu
      exact (h i u hi).2 x hxu
  induction h with
  | data h => rw [h.names.1, h.names.2]; simp
  | ptr b off h => simpa [V.ptrs, V.tks] using h
  | osl k h hs => simpa [V.ptrs, V.tks] using h
  | eptr k i off h => simpa [V.ptrs, V.tks] using h
  | omap k h => simp [V.ptrs, V.tks]
  | fn f fs cs A B hA hB h1 h2 ih1 ih2 =>
    obtain ⟨a1, a2⟩ := lst fs ih1
    obtain ⟨b1, b2⟩ := lst cs ih2
    simp only [V.ptrs, V.tks, List.mem_append]
    exact ⟨fun b hb => hb.elim (a1 b) (b1 b), fun b hb => hb.elim (a2 b) (b2 b)⟩
  | agg cs A hA h1 ih => simpa [V.ptrs, V.tks] using lst cs ih
  | tuple cs A hA h1 ih => simpa [V.ptrs, V.tks] using lst cs ih
  | iface t v mv h ih => simpa [V.ptrs, V.tks] using ih
  | junk mv => simp [V.ptrs, V.tks]

/-! The part -/
def subG (g : Gh) (ids ks : List Nat) : Gh :=
  { m := fun b => g.m (nth ids b), nb := ids.length, S := fun k => g.S (nth ks k), B := fun k => g.B (nth ks k), Z := fun k => g.Z (nth ks k), nt := ks.length, M := g.M, nm := 0, C := g.C }
theorem sub_ren (g : Gh) (ids ks : List Nat) : Ren g (subG g ids ks) (idx ids) (idx ks) :=
  ⟨fun b c h _ => ⟨(idx_nth h).1, by simp only [subG]; rw [(idx_nth h).2]⟩, fun k c h _ => ⟨(idx_nth h).1, by simp only [subG]; rw [(idx_nth h).2]; exact ⟨rfl, rfl, rfl⟩⟩, fun _ h => h⟩
structure Names (m : Mem) (ids ks : List Nat) : Prop where
  n1 : ids.Nodup
  l1 : ∀ x ∈ ids, x < m.blks.length
  n2 : ks.Nodup
  l2 : ∀ x ∈ ks, x < m.toks.length
theorem sub_blk {m : Mem} {ids ks : List Nat} {c : Nat} {cs : List V} (h : (subMem m ids ks).blks[c]? = some cs) : c < ids.length ∧ cs = renL (idx ids) (idx ks) (blkAt m.blks (nth ids c)) := by
  simp only [subMem, List.getElem?_map, Option.map_eq_some_iff] at h
  obtain ⟨b, hb, rfl⟩ := h
  have hl := (List.getElem?_eq_some_iff.1 hb).1
  rw [nth_get hl] at hb
  injection hb with hb
  exact ⟨hl, by rw [hb]⟩
theorem sub_tok {m : Mem} {ids ks : List Nat} {c : Nat} {t : Tok} (h : (subMem m ids ks).toks[c]? = some t) : c < ks.length ∧ t = (m.toks[nth ks c]?).getD .dead := by
  simp only [subMem, List.getElem?_map, Option.map_eq_some_iff] at h
  obtain ⟨b, hb, rfl⟩ := h
  have hl := (List.getElem?_eq_some_iff.1 hb).1
  rw [nth_get hl] at hb
  injection hb with hb
  exact ⟨hl, by rw [hb]⟩
/-- Where a location of the part lies in the whole. -/
def upL (ids ks : List Nat) : Loc → Loc
  | .blk c => .blk (nth ids c)
  | .tok c => .tok (nth ks c)
  | .mp k => .mp k
theorem sub_held {g : Gh} {m : Mem} {ids ks : List Nat} (hn : Names m ids ks) {l : Loc} (h : Held (subMem m ids ks) (subG g ids ks) l) : Held m g (upL ids ks l) ∧ (subG g ids ks).at l = g.at (upL ids ks l) ∧ (∀ c, l = .blk c → c < ids.length) ∧ (∀ c, l = .tok c → c < ks.length) ∧ ∀ c, l ≠ .mp c := by
  cases l with
  | blk c =>
    have hc : c < ids.length := by simpa [Held, subMem] using h
    exact ⟨hn.l1 _ (nth_mem hc), rfl, (fun c' e => by cases e; exact hc), (fun c' e => by cases e), (fun c' e => by cases e)⟩
  | tok c =>
    obtain ⟨h1, e, sz, xs, h2⟩ := h
    obtain ⟨h3, h4⟩ := sub_tok h2
    refine ⟨⟨h1, e, sz, xs, ?_⟩, rfl, (fun c' e => by cases e), (fun c' e => by cases e; exact h3), (fun c' e => by cases e)⟩
    have := hn.l2 _ (nth_mem h3)
    rw [List.getElem?_eq_getElem this] at h4 ⊢
    rw [h4]
    rfl
  | mp c =>
    obtain ⟨es, h⟩ := h
    simp [subMem] at h
theorem sub_off {g : Gh} {m : Mem} {ids ks : List Nat} (hn : Names m ids ks) {h : Nat} (ho : Off m g h) : Off (subMem m ids ks) (subG g ids ks) h := fun l hl => by
  obtain ⟨h1, h2, _⟩ := sub_held hn hl
  rw [h2]
  exact ho _ h1
theorem sub_ok {w : World} {g : Gh} {m : Mem} (hm : MemOk w g m) {ids ks : List Nat} (hn : Names m ids ks) : MemOk w (subG g ids ks) (subMem m ids ks) := by
  refine ⟨by simp [subG, subMem], by simp [subG, subMem], by simp [subG, subMem], fun c cs h => ?_, fun c t h => ?_, fun k es h => by simp [subMem] at h, fun l l' hl hl' he => ?_, fun h hc => ⟨(hm.com h hc).1, sub_off hn (hm.com h hc).2⟩⟩
  · obtain ⟨h1, rfl⟩ := sub_blk h
    have hb := hn.l1 _ (nth_mem h1)
    have : m.blks[nth ids c]? = some (blkAt m.blks (nth ids c)) := by
      simp [blkAt, hb]
    exact (hm.blk _ _ this).ren (sub_ren g ids ks) rfl
  · obtain ⟨h1, rfl⟩ := sub_tok h
    have hb := hn.l2 _ (nth_mem h1)
    rw [List.getElem?_eq_getElem hb, Option.getD_some]
    exact (hm.tok _ _ (List.getElem?_eq_getElem hb)).ren (fun _ h => h) rfl rfl rfl
  · obtain ⟨a1, a2, a3, a4, a5⟩ := sub_held hn hl
    obtain ⟨b1, b2, b3, b4, b5⟩ := sub_held hn hl'
    rw [a2, b2] at he
    have := hm.sep _ _ a1 b1 he
    cases l with
    | blk c =>
      cases l' with
      | blk c' =>
        simp only [upL, Loc.blk.injEq] at this
        rw [nth_inj hn.n1 (a3 c rfl) (b3 c' rfl) this]
      | tok c' => simp [upL] at this
      | mp c' => exact absurd rfl (b5 c')
    | tok c =>
      cases l' with
      | blk c' => simp [upL] at this
      | tok c' =>
        simp only [upL, Loc.tok.injEq] at this
        rw [nth_inj hn.n2 (a4 c rfl) (b4 c' rfl) this]
      | mp c' => exact absurd rfl (b5 c')
    | mp c => exact absurd rfl (a5 c)
end Go.Vm

namespace Go.Vm
open Go

def backG (g g' : Gh) (ids : List Nat) : Gh :=
  { m := fun b => if b < g.nb then g.m b else g'.m (b - g.nb + ids.length), nb := g.nb + (g'.nb - ids.length),
    S := fun k => if k < g.nt then g.S k else g'.S (k - g.nt), B := fun k => if k < g.nt then g.B k else g'.B (k - g.nt), Z := fun k => if k < g.nt then g.Z k else g'.Z (k - g.nt), nt := g.nt + g'.nt,
    M := g.M, nm := g.nm, C := g'.C }
theorem putMany_at : ∀ (ids : List Nat) (bs cs : List (List V)), ids.Nodup → (∀ x ∈ ids, x < bs.length) → ids.length ≤ cs.length → ∀ c, c < ids.length → (putMany bs ids cs)[nth ids c]? = cs[c]?
  | [], bs, cs, h1, h2, h3, c, h => by simp at h
  | i :: r, bs, [], h1, h2, h3, c, h => by simp at h3
  | i :: r, bs, y :: cs, h1, h2, h3, 0, h => by
    simp only [putMany, nth]
    rw [putMany_get r _ _ i (List.nodup_cons.1 h1).1, getElem?_setAt, if_pos rfl]
    have := h2 i (by simp)
    simp [this]
  | i :: r, bs, y :: cs, h1, h2, h3, c + 1, h => by
    simp only [putMany, nth, List.getElem?_cons_succ]
    exact putMany_at r _ cs (List.nodup_cons.1 h1).2 (fun x hx => by rw [length_setAt]; exact h2 x (by simp [hx])) (by simpa using h3) c (by simpa using h)
theorem killAll_at : ∀ (ks : List Nat) (ts : List Tok) (k : Nat), k ∈ ks → ∀ t, (killAll ts ks)[k]? = some t → t = .dead
  | [], ts, k, h, t, ht => by simp at h
  | j :: r, ts, k, h, t, ht => by
    by_cases hr : k ∈ r
    · exact killAll_at r _ k hr t ht
    · rw [killAll, killAll_get r _ k hr, getElem?_setAt] at ht
      have : k = j := by
        rcases List.mem_cons.1 h with h | h
        · exact h
        · exact absurd h hr
      rw [if_pos this, Option.map_eq_some_iff] at ht
      obtain ⟨_, _, rfl⟩ := ht
      rfl

section
variable {w w' : World} {g g' : Gh} {m m' : Mem} {ids ks : List Nat}

theorem back_ren (hm : MemOk w g m) (hn : Names m ids ks) (hm' : MemOk w' g' m') (hc : CallNx w (subG g ids ks) (subMem m ids ks) w' g' m') :
    Ren g' (backG g g' ids) (backB ids m.blks.length) (backK m.toks.length) := by
  have hnb := hm.nb
  have hnt := hm.nt
  refine ⟨fun c b h hlt => ?_, fun c k h hlt => ?_, fun _ h => h⟩
  · simp only [backB, Option.some.injEq] at h
    subst h
    by_cases hl : c < ids.length
    · rw [if_pos hl]
      have h1 := hn.l1 _ (nth_mem hl)
      have h2 := (hc.m c (by simpa [subMem] using hl)).2
      simp only [backG]
      rw [if_pos (by omega)]
      exact ⟨by omega, h2.symm⟩
    · rw [if_neg hl]
      simp only [backG]
      rw [if_neg (by omega)]
      refine ⟨by omega, ?_⟩
      congr 1
      omega
  · simp only [backK, Option.some.injEq] at h
    subst h
    simp only [backG]
    rw [if_neg (by omega), if_neg (by omega), if_neg (by omega)]
    have : m.toks.length + c - g.nt = c := by omega
    rw [this]
    exact ⟨by omega, rfl, rfl, rfl⟩
theorem back_agree (hc : CallNx w (subG g ids ks) (subMem m ids ks) w' g' m') : Agree g (backG g g' ids) :=
  ⟨Nat.le_add_right _ _, fun b hb => by simp [backG, hb], Nat.le_add_right _ _, fun k hk => by simp [backG, hk], Nat.le_refl _, fun _ _ => rfl, fun h hh => hc.C h hh⟩
/-- A location of the caller's that the callee did not get. -/
def Apart (ids ks : List Nat) : Loc → Prop
  | .blk b => b ∉ ids
  | .tok k => k ∉ ks
  | .mp _ => True
theorem apart_off (hm : MemOk w g m) (hn : Names m ids ks) {l : Loc} (hl : Held m g l) (ha : Apart ids ks l) : Off (subMem m ids ks) (subG g ids ks) (g.at l) := fun l' hl' he => by
  obtain ⟨h1, h2, h3, h4, h5⟩ := sub_held hn hl'
  rw [h2] at he
  have := hm.sep _ _ h1 hl he
  subst this
  cases l' with
  | blk c => exact ha (nth_mem (h3 c rfl))
  | tok c => exact ha (nth_mem (h4 c rfl))
  | mp c => exact h5 c rfl
theorem apart_kept (hm : MemOk w g m) (hn : Names m ids ks) (hc : CallNx w (subG g ids ks) (subMem m ids ks) w' g' m') {l : Loc} (hl : Held m g l) (ha : Apart ids ks l) :
    w'.heap[g.at l]? = w.heap[g.at l]? ∧ Off m' g' (g.at l) ∧ ¬ g'.C (g.at l) := by
  have ho := apart_off hm hn hl ha
  have hs := hm.at_lt hl
  exact ⟨hc.keep _ hs ho, hc.off _ hs ho, fun h => (hm.com _ (hc.new _ hs ho h)).2 _ hl rfl⟩
theorem com_kept (hm : MemOk w g m) (hn : Names m ids ks) (hc : CallNx w (subG g ids ks) (subMem m ids ks) w' g' m') : ∀ h, g.C h → w'.heap[h]? = w.heap[h]? := fun h hh =>
  hc.keep h (hm.com h hh).1 (sub_off hn (hm.com h hh).2)
theorem back_blk (hm : MemOk w g m) (hn : Names m ids ks) (hc : CallNx w (subG g ids ks) (subMem m ids ks) w' g' m') {b : Nat} {cs : List V} (h : (backM m ids ks m').blks[b]? = some cs) :
    (b < m.blks.length ∧ b ∉ ids ∧ m.blks[b]? = some cs) ∨ ∃ c cs', backB ids m.blks.length c = some b ∧ m'.blks[c]? = some cs' ∧ cs = renL (backB ids m.blks.length) (backK m.toks.length) cs' := by
  have hlen : ids.length ≤ m'.blks.length := by
    by_cases h0 : ids.length = 0
    · omega
    · have := (hc.m (ids.length - 1) (by simp [subMem]; omega)).1
      omega
  simp only [backM] at h
  by_cases hb : b < m.blks.length
  · rw [append_get _ _ b (by rw [putMany_len]; exact hb)] at h
    by_cases hi : b ∈ ids
    · obtain ⟨c, hc1, rfl⟩ := mem_nth hi
      rw [putMany_at ids _ _ hn.n1 hn.l1 (by simp; omega) c hc1, List.getElem?_take, if_pos hc1, List.getElem?_map, Option.map_eq_some_iff] at h
      obtain ⟨cs', h1, rfl⟩ := h
      exact .inr ⟨c, cs', by simp [backB, hc1], h1, rfl⟩
    · rw [putMany_get _ _ _ b hi] at h
      exact .inl ⟨hb, hi, h⟩
  · rw [List.getElem?_append_right (by rw [putMany_len]; omega), putMany_len, List.getElem?_drop, List.getElem?_map, Option.map_eq_some_iff] at h
    obtain ⟨cs', h1, rfl⟩ := h
    refine .inr ⟨_, cs', ?_, h1, rfl⟩
    simp only [backB, Option.some.injEq]
    rw [if_neg (by omega)]
    omega
theorem back_tok {k : Nat} {t : Tok} (h : (backM m ids ks m').toks[k]? = some t) :
    (k < m.toks.length ∧ (t = .dead ∨ k ∉ ks ∧ m.toks[k]? = some t)) ∨ ∃ c, k = m.toks.length + c ∧ m'.toks[c]? = some t := by
  simp only [backM] at h
  by_cases hk : k < m.toks.length
  · rw [append_get _ _ k (by rw [killAll_len]; exact hk)] at h
    by_cases hi : k ∈ ks
    · exact .inl ⟨hk, .inl (killAll_at _ _ _ hi _ h)⟩
    · rw [killAll_get _ _ k hi] at h
      exact .inl ⟨hk, .inr ⟨hi, h⟩⟩
  · rw [List.getElem?_append_right (by rw [killAll_len]; omega), killAll_len] at h
    exact .inr ⟨k - m.toks.length, by omega, h⟩
def downL (m : Mem) (ids : List Nat) : Loc → Loc
  | .blk c => .blk (if c < ids.length then nth ids c else m.blks.length + (c - ids.length))
  | .tok c => .tok (m.toks.length + c)
  | .mp k => .mp k
theorem back_held (hm : MemOk w g m) (hn : Names m ids ks) (hm' : MemOk w' g' m') (hc : CallNx w (subG g ids ks) (subMem m ids ks) w' g' m') {l : Loc} (h : Held (backM m ids ks m') (backG g g' ids) l) :
    (Held m g l ∧ Apart ids ks l ∧ (backG g g' ids).at l = g.at l) ∨ ∃ l', Held m' g' l' ∧ (backG g g' ids).at l = g'.at l' ∧ l = downL m ids l' := by
  have hr := back_ren hm hn hm' hc
  have ha := back_agree hc
  cases l with
  | blk b =>
    have hb : b < (backM m ids ks m').blks.length := h
    obtain ⟨cs, hcs⟩ : ∃ cs, (backM m ids ks m').blks[b]? = some cs := ⟨_, List.getElem?_eq_getElem hb⟩
    rcases back_blk hm hn hc hcs with ⟨h1, h2, h3⟩ | ⟨c, cs', h1, h2, h3⟩
    · exact .inl ⟨h1, h2, ha.m b (by rw [hm.nb]; exact h1)⟩
    · have hl := lt_blk h2
      exact .inr ⟨.blk c, hl, (hr.b c b h1 (by rw [hm'.nb]; exact hl)).2, by simp only [backB, Option.some.injEq] at h1; simp only [downL]; rw [h1]⟩
  | tok k =>
    obtain ⟨hS, e, sz, xs, hk⟩ := h
    rcases back_tok hk with ⟨h1, h2⟩ | ⟨c, rfl, h2⟩
    · rcases h2 with h2 | ⟨h2, h3⟩
      · cases h2
      · have := ha.t k (by rw [hm.nt]; exact h1)
        exact .inl ⟨⟨by rw [← this.1]; exact hS, e, sz, xs, h3⟩, h2, this.2.1⟩
    · have hl := lt_tok h2
      have := hr.t c _ rfl (by rw [hm'.nt]; exact hl)
      exact .inr ⟨.tok c, ⟨by rw [← this.2.1]; exact hS, e, sz, xs, h2⟩, this.2.2.1, rfl⟩
  | mp k =>
    exact .inl ⟨h, trivial, rfl⟩
theorem back_ok (hm : MemOk w g m) (hn : Names m ids ks) (hm' : MemOk w' g' m') (hc : CallNx w (subG g ids ks) (subMem m ids ks) w' g' m') : MemOk w' (backG g g' ids) (backM m ids ks m') ∧ Nx w g m w' (backG g g' ids) (backM m ids ks m') := by
  have hr := back_ren hm hn hm' hc
  have ha := back_agree hc
  have hcom := com_kept hm hn hc
  have hlen : ids.length ≤ m'.blks.length := by
    by_cases h0 : ids.length = 0
    · omega
    · have := (hc.m (ids.length - 1) (by simp [subMem]; omega)).1
      omega
  refine ⟨⟨?_, ?_, hm.nm, fun b cs hb => ?_, fun k t hk => ?_, fun k es hk => ?_, fun l l' hl hl' he => ?_, fun h hh => ⟨(hm'.com h hh).1, fun l hl => ?_⟩⟩,
    ha, hc.os, hc.tape, hc.output, hc.size, fun h hh ho => hc.keep h hh (sub_off hn ho), fun h hh ho hC => hc.new h hh (sub_off hn ho) hC, fun h hh ho l hl => ?_⟩
  · simp [backG, backM, putMany_len, hm.nb, hm'.nb]
  · simp [backG, backM, killAll_len, hm.nt, hm'.nt]
  · rcases back_blk hm hn hc hb with ⟨h1, h2, h3⟩ | ⟨c, cs', h1, h2, rfl⟩
    · exact (hm.blk b cs h3).keep (by rw [hm.nb]; exact h1) ha hcom (apart_kept hm hn hc (l := .blk b) h1 h2).1
    · exact (hm'.blk c cs' h2).ren hr (hr.b c b h1 (by rw [hm'.nb]; exact lt_blk h2)).2
  · rcases back_tok hk with ⟨h1, h2⟩ | ⟨c, rfl, h2⟩
    · rcases h2 with rfl | ⟨h2, h3⟩
      · trivial
      · refine (hm.tok k t h3).keep (by rw [hm.nt]; exact h1) ha hcom fun hlive hS => ?_
        exact (apart_kept hm hn hc (l := .tok k) ⟨hS, by
          obtain ⟨e, sz, xs, rfl⟩ := hlive
          exact ⟨e, sz, xs, h3⟩⟩ h2).1
    · have := hr.t c _ rfl (by rw [hm'.nt]; exact lt_tok h2)
      exact (hm'.tok c t h2).ren hr.C this.2.1 this.2.2.1 this.2.2.2
  · have hk' : m.maps[k]? = some es := hk
    refine (hm.map k es hk').keep (by rw [hm.nm]; exact lt_map hk') ha hcom fun hlive => ?_
    exact (apart_kept hm hn hc (l := .mp k) ⟨es.2, by rw [hk', ← hlive]⟩ trivial).1
  · rcases back_held hm hn hm' hc hl with ⟨a1, a2, a3⟩ | ⟨x, a1, a2, a3⟩ <;> rcases back_held hm hn hm' hc hl' with ⟨b1, b2, b3⟩ | ⟨y, b1, b2, b3⟩
    · rw [a3, b3] at he
      exact hm.sep _ _ a1 b1 he
    · rw [a3, b2] at he
      exact absurd he.symm ((apart_kept hm hn hc a1 a2).2.1 y b1)
    · rw [a2, b3] at he
      exact absurd he ((apart_kept hm hn hc b1 b2).2.1 x a1)
    · rw [a2, b2] at he
      rw [a3, b3, hm'.sep _ _ a1 b1 he]
  · rcases back_held hm hn hm' hc hl with ⟨a1, a2, a3⟩ | ⟨x, a1, a2, a3⟩
    · rw [a3]
      rintro rfl
      exact (apart_kept hm hn hc a1 a2).2.2 hh
    · rw [a2]
      exact (hm'.com h hh).2 x a1
  · rcases back_held hm hn hm' hc hl with ⟨a1, a2, a3⟩ | ⟨x, a1, a2, a3⟩
    · rw [a3]
      exact ho _ a1
    · rw [a2]
      exact hc.off h hh (sub_off hn ho) x a1
end
end Go.Vm

namespace Go.Vm
open Go

theorem CallNx.start {w : World} {g : Gh} {m : Mem} (hm : MemOk w g m) : CallNx w g m w g m := ⟨fun b hb => ⟨hb, rfl⟩, fun _ h => h, rfl, rfl, rfl, Nat.le_refl _, fun _ _ _ => rfl, fun _ _ _ h => h, fun _ _ h => h⟩
theorem CallNx.next {w0 w w' : World} {g0 g g' : Gh} {m0 m m' : Mem} (h : CallNx w0 g0 m0 w g m) (hm : MemOk w g m) (k : Nx w g m w' g' m') (hm' : MemOk w' g' m') : CallNx w0 g0 m0 w' g' m' :=
  ⟨fun b hb => by
    obtain ⟨h1, h2⟩ := h.m b hb
    have h1' : b < g.nb := by rw [hm.nb]; exact h1
    exact ⟨by rw [← hm'.nb]; exact Nat.lt_of_lt_of_le h1' k.agree.nb, (k.agree.m b h1').trans h2⟩,
   fun x hx => k.agree.C x (h.C x hx), k.os.trans h.os, k.tape.trans h.tape, k.output.trans h.output, Nat.le_trans h.size k.size,
   fun x hx ho => (k.keep x (Nat.lt_of_lt_of_le hx h.size) (h.off x hx ho)).trans (h.keep x hx ho),
   fun x hx ho hc => h.new x hx ho (k.new x (Nat.lt_of_lt_of_le hx h.size) (h.off x hx ho) hc),
   fun x hx ho => k.off x (Nat.lt_of_lt_of_le hx h.size) (h.off x hx ho)⟩

/-- What the account began with: world, ghost, memory, the frame's size. -/
structure From where
  w : World
  g : Gh
  m : Mem
  n : Nat
/-- The abstract state s stands for the frame a in the world w. -/
def At (F : From) (s : St) (a : Act) (w : World) : Prop :=
  ∃ g, ERel w g s.env a ∧ MemOk w g s.mem ∧ CallNx F.w F.g F.m w g s.mem ∧ a.tmps.size = F.n ∧ a.defers = []
theorem At.same {F : From} {s s' : St} (he : ∀ t, lookE s'.env t = lookE s.env t) (hm : s'.mem = s.mem) {a : Act} {w : World} (h : At F s a w) : At F s' a w := by
  obtain ⟨g, h1, h2, h3, h4, h5⟩ := h
  exact ⟨g, fun t => by rw [he t]; exact h1 t, by rw [hm]; exact h2, by rw [hm]; exact h3, h4, h5⟩
theorem put_size (a : Act) (d : Option Nat) (v : Value) : (a.put d v).tmps.size = a.tmps.size := by cases d <;> simp [Act.put]
theorem put_defers' (a : Act) (d : Option Nat) (v : Value) : (a.put d v).defers = a.defers := by cases d <;> rfl
/-- A later state. -/
theorem At.next {F : From} {s : St} {a : Act} {w w' : World} {g g' : Gh} {m' : Mem} (hE : ERel w g s.env a) (hm : MemOk w g s.mem) (hc : CallNx F.w F.g F.m w g s.mem) (hs : a.tmps.size = F.n) (hd : a.defers = [])
    (c : Cur w g s.mem w' g' m') {v : V} {mv : Value} (hv : VR w' g' v mv) {d : Option Nat} (hdn : ∀ t, d = some t → t < F.n) : At F ⟨putE s.env d v, m'⟩ (a.put d mv) w' :=
  ⟨g', ERel.put (fun t => c.vr hm (hE t)) d hv (by rw [hs]; exact hdn), c.ok, hc.next hm c.nx c.ok, by rw [put_size, hs], by rw [put_defers', hd]⟩

theorem args_rel {w : World} {g : Gh} {s : St} {a : Act} (hE : ERel w g s.env a) (as : Array Operand) : VRL w g (as.toList.map s.get) (as.map a.eval) := by
  refine ⟨by simp, fun i u hu => ?_⟩
  rw [List.getElem?_map, Option.map_eq_some_iff] at hu
  obtain ⟨x, hx, rfl⟩ := hu
  have hx' : as[i]? = some x := by simpa using hx
  have : (as.map a.eval).getD i undef = a.eval x := by simp [Array.getD_eq_getD_getElem?, hx']
  rw [this]
  exact get_rel hE x
theorem VRL.append {w : World} {g : Gh} {vs us : List V} {A B : Array Value} (h1 : VRL w g vs A) (h2 : VRL w g us B) : VRL w g (vs ++ us) (A ++ B) := by
  refine ⟨by simp [h1.1, h2.1], fun i u hu => ?_⟩
  by_cases hi : i < vs.length
  · rw [List.getElem?_append_left hi] at hu
    have := h1.2 i u hu
    have e : (A ++ B).getD i undef = A.getD i undef := by
      simp only [Array.getD_eq_getD_getElem?]
      rw [Array.getElem?_append_left (by rw [h1.1]; exact hi)]
    rwa [e]
  · rw [List.getElem?_append_right (by omega)] at hu
    have := h2.2 _ u hu
    have e : (A ++ B).getD i undef = B.getD (i - vs.length) undef := by
      simp only [Array.getD_eq_getD_getElem?]
      rw [Array.getElem?_append_right (by rw [h1.1]; omega), h1.1]
    rwa [e]
theorem VRL.ren {w : World} {g g' : Gh} {p q : Nat → Option Nat} (hr : Ren g g' p q) {vs : List V} {A : Array Value} (h : VRL w g vs A) : VRL w g' (renL p q vs) A := by
  refine ⟨by rw [h.1]; simp, fun i u hu => ?_⟩
  rw [renL_get, Option.map_eq_some_iff] at hu
  obtain ⟨x, hx, rfl⟩ := hu
  exact (h.2 i x hx).ren hr
theorem VRL.names {w : World} {g : Gh} {vs : List V} {A : Array Value} (h : VRL w g vs A) : (∀ b ∈ ptrsL vs, b < g.nb) ∧ ∀ k ∈ tksL vs, k < g.nt := by
  refine ⟨fun b hb => ?_, fun k hk => ?_⟩
  · obtain ⟨u, hu, hx⟩ := ptrsL_mem.1 hb
    obtain ⟨i, hi⟩ := List.getElem?_of_mem hu
    exact (h.2 i u hi).names.1 b hx
  · obtain ⟨u, hu, hx⟩ := tksL_mem.1 hk
    obtain ⟨i, hi⟩ := List.getElem?_of_mem hu
    exact (h.2 i u hi).names.2 k hx
theorem blk_names {w : World} {g : Gh} {m : Mem} (hm : MemOk w g m) (b : Nat) : (∀ x ∈ ptrsL (blkAt m.blks b), x < m.blks.length) ∧ ∀ k ∈ tksL (blkAt m.blks b), k < m.toks.length := by
  cases h : m.blks[b]? with
  | none => simp [blkAt, h, ptrsL, tksL]
  | some cs =>
    have e : blkAt m.blks b = cs := by simp [blkAt, h]
    rw [e, ← hm.nb, ← hm.nt]
    obtain ⟨arr, ty, h1, h2, h3⟩ := hm.blk b cs h
    exact VRL.names (A := arr) ⟨h2, h3⟩
theorem call_names {w : World} {g : Gh} {m : Mem} (hm : MemOk w g m) {vs : List V} {A : Array Value} (h : VRL w g vs A) : Names m (callIds (m, vs)) (callKs (m, vs)) := by
  obtain ⟨n1, n2⟩ := h.names
  refine ⟨reach_nodup _ _ _ _ List.nodup_nil, fun x hx => ?_, dedup_nodup _ _ List.nodup_nil, fun k hk => ?_⟩
  · rcases reach_mem _ _ _ _ x hx with h | h | ⟨b, h⟩
    · simp at h
    · rw [← hm.nb]; exact n1 x h
    · exact (blk_names hm b).1 x h
  · rcases dedup_mem _ _ k hk with h | h
    · simp at h
    · rcases List.mem_append.1 h with h | h
      · rw [← hm.nt]; exact n2 k h
      · obtain ⟨cs, hcs, hk'⟩ := tksB_mem.1 h
        obtain ⟨b, _, rfl⟩ := List.mem_map.1 hcs
        exact (blk_names hm b).2 k hk'

/-- What the account leans on. -/
structure HR (c : Cfg) (R : CallRel) (F : From) : Prop where
  R : ∀ g a m r m', R g a m r m' → Snd c.P c.J g a m r m'
  ip : ∀ g e sz xs ys, c.ip g e sz xs ys → SndIp c.P g e sz xs ys
  ok : MemOk F.w F.g F.m
  J : c.J F.w F.g.C
  st : Stable c.J
section
variable {c : Cfg} {R : CallRel} {F : From} (hR : HR c R F) {ops : Array Oper} {Q : Exit → Act → World → Prop}
include hR

/-- An operation that is carried out. -/
theorem did_ok {o : Oper} {s : St} {a : Act} {w : World} {k : Cls} {v : V} {m : Mem} (h : Did c R ops.toList o s k v m) (hA : At F s a w) (hdn : ∀ t, o.dst = some t → t < F.n) {K : Act → World → Prop}
    (hK : ∀ a' w', At F ⟨putE s.env o.dst v, m⟩ a' w' → K a' w') : o.wp c.P a w K Q := by
  obtain ⟨g, hE, hm, hc, hs, hd⟩ := hA
  unfold Oper.wp
  cases h with
  | pick q x y t ho hq =>
    have hqv := get_rel hE q
    rw [hq] at hqv
    have hrun : (execOp a.eval o).run c.P w = .ok (.value (if t then a.eval x else a.eval y)) w := by
      cases t <;> simp [execOp, ho, hqv.bool_inv, asBool]
    rw [hrun]
    refine hK _ _ (At.next hE hm hc hs hd (.start hm) ?_ hdn)
    cases t
    · exact get_rel hE y
    · exact get_rel hE x
  | op e h hok =>
    obtain ⟨mv, w', g', hrun, hv, hcur⟩ := evalOp_ok hm hE rfl o h hok
    rcases hrun with hrun | ⟨hrun, rfl⟩
    · rw [hrun]
      exact hK _ _ (At.next hE hm hc hs hd hcur hv hdn)
    · rw [hrun]
      exact hK _ _ (At.next hE hm hc hs hd hcur hv hdn)
  | ip f as ts fg k e sz xs ys ho hf has hk h =>
    have hfv := get_rel hE f
    rw [hf] at hfv
    obtain ⟨FA, FB, hfe, hF1, hF2, -, -⟩ := hfv.fn_inv
    obtain rfl : FA = #[] := by simpa using hF1
    obtain rfl : FB = #[] := by simpa using hF2
    obtain ⟨⟨fn, e1, e2, e3⟩, hlen, hys, hnil, hcall⟩ := hR.ip _ _ _ _ _ h
    have hrun : (execOp a.eval o).run c.P w = .ok (.enter fg (as.map a.eval)) w := by
      have hcf : ∀ args, (callFunc fg args).run c.P w = .ok (.enter fg args) w := fun args => by
        simp only [callFunc, Sem.run_bind, run_program, Result.andThen, e1, e3, e2, Bool.false_eq_true, if_false, Sem.run_pure]
      simp [execOp, ho, resolve, hfe, Deferred.ofValue, invoke, hcf]
    rw [hrun]
    have hvs := args_rel hE as
    rw [has] at hvs
    have hv0 := hvs.2 0 _ rfl
    obtain ⟨hmv, hkn, A0, n0, c0, hS⟩ := hv0.osl_inv
    have harg : as.map a.eval = #[g.S k] := by
      have h1 : (as.map a.eval).size = 1 := hvs.1
      rw [← hmv]
      apply Array.ext
      · simpa using h1
      · intro i hi1 hi2
        obtain rfl : i = 0 := by simp at hi2; omega
        simp only [Array.getD_eq_getD_getElem?, Array.getElem?_eq_getElem hi1, Option.getD_some]
        rfl
    rw [harg]
    obtain ⟨t1, t2, t3, t4⟩ := hm.tok k _ hk
    have fin1 : ∀ w', Cur w g s.mem w' g { s.mem with toks := setAt s.mem.toks k fun _ => .live e sz ys } → K (a.put o.dst (.tuple #[])) w' := fun w' hcur =>
      hK _ _ (At.next hE hm hc hs hd hcur (.data (.tuple [] #[] rfl (by simp))) hdn)
    rcases t4 with ⟨hS0, rfl⟩ | ⟨cap, arr, hS1, ha, hcap, hmax, hsz, hdr, hone⟩
    · rw [hS0]
      refine Calls.mono (hnil rfl w) fun ex w' => ?_
      rintro ⟨rfl, rfl⟩
      refine fin1 _ ?_
      have hy : ys = [] := List.eq_nil_of_length_eq_zero (by simpa using hlen)
      subst hy
      have he : (setAt s.mem.toks k fun _ => Tok.live e sz []) = s.mem.toks := by
        apply List.ext_getElem?
        intro j
        rw [getElem?_setAt]
        split
        · rename_i hj
          subst hj
          rw [hk]
          rfl
        · rfl
      rw [he]
      exact .start hm
    · rw [hS1]
      refine Calls.mono (hcall w g.C (g.B k) cap arr ha hcap hsz hdr) fun ex w' => ?_
      rintro ⟨rfl, arr', q1, q2, q3, q4, q5, q6, q7, q8⟩
      exact fin1 _ ((cur_setRow_tok hm hk hS1 arr arr' ha hlen q1 hys q2 q3).draw w' q4 q5 q6 (by simpa using q7) fun h hh => q8 h (by simpa using hh))
  | call f as ts fg fs cs r m' ho hf p hp hr =>
    have hfv := get_rel hE f
    rw [hf] at hfv
    obtain ⟨FA, FB, hfe, hF1, hF2, hF3, hF4⟩ := hfv.fn_inv
    obtain ⟨⟨fn, e1, e2, e3⟩, hcall⟩ := hR.R _ _ _ _ _ hr
    have hrun : (execOp a.eval o).run c.P w = .ok (.enter fg (FA ++ as.map a.eval ++ FB)) w := by
      have hcf : ∀ args, (callFunc fg args).run c.P w = .ok (.enter fg args) w := fun args => by
        simp only [callFunc, Sem.run_bind, run_program, Result.andThen, e1, e3, e2, Bool.false_eq_true, if_false, Sem.run_pure]
      simp [execOp, ho, resolve, hfe, Deferred.ofValue, invoke, hcf]
    rw [hrun]
    have hvs : VRL w g (fs ++ as.toList.map s.get ++ cs) (FA ++ as.map a.eval ++ FB) := (VRL.append ⟨hF1, hF3⟩ (args_rel hE as)).append ⟨hF2, hF4⟩
    -- what the call takes along is settled
    have hset : ∃ g1, Cur w g s.mem w g1 p.1 ∧ VRL w g1 p.2 (FA ++ as.map a.eval ++ FB) := by
      subst hp
      unfold callP
      split
      · exact ⟨g, .start hm, hvs⟩
      · obtain ⟨g2, h1, h2, h3⟩ := (Cur.start hm).settleL hvs
        exact ⟨g2, h1, h3⟩
    obtain ⟨g1, hcur, hvs1⟩ := hset
    have hn : Names p.1 (callIds p) (callKs p) := call_names (vs := p.2) hcur.ok hvs1
    have hJ : c.J w g1.C := hR.st _ _ _ _ (fun h hh => hcur.nx.agree.C h (hc.C h hh)) (fun h hh => hc.keep h (hR.ok.com h hh).1 (hR.ok.com h hh).2) hR.J
    refine Calls.mono (hcall w (subG g1 (callIds p) (callKs p)) _ hJ (hvs1.ren (sub_ren _ _ _)) (sub_ok hcur.ok hn)) fun e w' => ?_
    rintro ⟨mv, g', rfl, hv, hm', hcn⟩
    obtain ⟨b1, b2⟩ := back_ok hcur.ok hn hm' hcn
    exact hK _ _ (At.next hE hm hc hs hd ⟨b1, hcur.nx.trans b2⟩ (hv.ren (back_ren hcur.ok hn hm' hcn)) hdn)
omit hR in
theorem guard_yields {s : St} {a : Act} {w : World} (hA : At F s a w) {j : Nat} {b : Bool} (hv : guardVal ops.toList j s = .bool b) : yielded ops a.tmps j = some b := by
  obtain ⟨g, hE, hm, hc, hs, hd⟩ := hA
  unfold guardVal at hv
  rw [Array.getElem?_toList] at hv
  cases ho : ops[j]? with
  | none => rw [ho] at hv; simp at hv
  | some o =>
    rw [ho] at hv
    simp only at hv
    cases hd : o.dst with
    | none => rw [hd] at hv; simp at hv
    | some d =>
      rw [hd] at hv
      simp only at hv
      have := hE d
      rw [hv] at this
      have hb := this.bool_inv
      unfold yielded
      simp only [ho, Option.bind_some, hd]
      rw [Array.getD_eq_getD_getElem?] at hb
      cases ht : a.tmps[d]? with
      | none => rw [ht] at hb; simp [undef] at hb
      | some x =>
        rw [ht] at hb
        simp only [Option.getD_some] at hb
        rw [hb]
omit hR in
theorem guard_none {s : St} {a : Act} {w : World} (hA : At F s a w) {j : Nat} (hv : guardVal ops.toList j s = .tuple []) : yielded ops a.tmps j = none := by
  obtain ⟨g, hE, hm, hc, hs, hd⟩ := hA
  unfold guardVal at hv
  rw [Array.getElem?_toList] at hv
  cases ho : ops[j]? with
  | none => rw [ho] at hv; simp at hv
  | some o =>
    rw [ho] at hv
    simp only at hv
    cases hd : o.dst with
    | none => rw [hd] at hv; simp at hv
    | some d =>
      rw [hd] at hv
      simp only at hv
      have := hE d
      rw [hv] at this
      obtain ⟨A, hA, _, _⟩ := this.tuple_inv
      unfold yielded
      simp only [ho, Option.bind_some, hd]
      rw [Array.getD_eq_getD_getElem?] at hA
      cases ht : a.tmps[d]? with
      | none => rfl
      | some x =>
        rw [ht] at hA
        simp only [Option.getD_some] at hA
        rw [hA]
theorem one_ok {i : Nat} {o : Oper} (hi : ops[i]? = some o) {s : St} {a : Act} {w : World} {k : Cls} {v : V} {m : Mem} (h : One c R ops.toList o s k v m) (hA : At F s a w) (hdn : ∀ t, o.dst = some t → t < F.n) {K : Act → World → Prop}
    (hK : ∀ a' w', At F ⟨putE s.env o.dst v, m⟩ a' w' → K a' w') : wpOp c.P ops Q i K a w := by
  unfold wpOp
  simp only [hi]
  cases h with
  | skip j w' hg hv =>
    have hw : Region.wanted o (yielded ops a.tmps) = false := by
      rcases hv with hv | ⟨b, hv, hb⟩
      · simp only [Region.wanted, hg, guard_none hA hv]
        rfl
      · simp only [Region.wanted, hg, guard_yields hA hv]
        simpa using hb
    simp only [hw, Bool.false_eq_true, if_false]
    obtain ⟨g, hE, hm, hc, hs, hd⟩ := hA
    exact hK _ _ (At.next hE hm hc hs hd (.start hm) (.data (.tuple [] #[] rfl (by simp))) hdn)
  | run _ _ _ hg h =>
    have hw : Region.wanted o (yielded ops a.tmps) = true := by
      rcases hg with hg | ⟨j, w', hg, hv⟩
      · simp [Region.wanted, hg]
      · simp [Region.wanted, hg, guard_yields hA hv]
    simp only [hw, if_true]
    exact .inl (did_ok hR h hA hdn hK)
end
end Go.Vm

namespace Go.Vm
open Go

theorem Tr.front {c : Cfg} {R : CallRel} {ops : Array Oper} {cs : Nat → Cls} {K : St → Prop} {i : Nat} : ∀ (l1 : List Nat) {l2 : List Nat} {s : St}, Tr c R ops cs (l1 ++ i :: l2) s K →
    (∀ j ∈ l1, (∀ oj oi, ops[j]? = some oj → ops[i]? = some oi → (∀ d, oj.dst = some d → d ∉ reads ops oi ∧ oi.dst ≠ some d) ∧ ∀ d, oi.dst = some d → d ∉ reads ops oj) ∧ (cs j).clash (cs i) = false) →
    Tr c R ops cs (i :: (l1 ++ l2)) s K
  | [], l2, s, h, hh => h
  | j :: l1, l2, s, h, hh => by
    obtain ⟨o, v, m, h1, h2, h3⟩ := h
    have h4 := Tr.front l1 h3 fun x hx => hh x (by simp [hx])
    have h5 : Tr c R ops cs (j :: i :: (l1 ++ l2)) s K := ⟨o, v, m, h1, h2, h4⟩
    exact h5.swap (hh j (by simp)).1 (hh j (by simp)).2

structure Chk (ops : Array Oper) (m : Array Nat) (cs : Nat → Cls) : Prop where
  back : ∀ j o, ops[j]? = some o → ∀ e ∈ o.after, Region.binds .any e = true → e.on < j
  clo : ∀ j o, ops[j]? = some o → ∀ i, i < j → ordered m i j = true → ∃ e ∈ o.after, Region.binds .any e = true ∧ (e.on = i ∨ (i < e.on ∧ ordered m i e.on = true))
  pair : ∀ i j, i < j → j < ops.size → ordered m i j = false → (∀ oi oj, ops[i]? = some oi → ops[j]? = some oj → (∀ d, oi.dst = some d → d ∉ reads ops oj ∧ oj.dst ≠ some d) ∧ ∀ d, oj.dst = some d → d ∉ reads ops oi) ∧ (cs i).clash (cs j) = false
theorem not_has {l : List Nat} {x : Nat} (h : has l x = false) : x ∉ l := fun hm => by rw [mem_has.2 hm] at h; cases h
theorem Chk.of {ops : Array Oper} {l : List Cls} (h : chk ops l = true) : Chk ops (Region.before ops) fun j => (l[j]?).getD .pure := by
  simp only [chk, List.all_eq_true, List.mem_range, Bool.and_eq_true] at h
  refine ⟨fun j o ho e he hb => ?_, fun j o ho i hi hor => ?_, fun i j hij hj hor => ?_⟩
  · have hj := (Array.getElem?_eq_some_iff.1 ho).1
    have h1 := (h j hj).1
    simp only [chkOne, ho, Bool.and_eq_true, Array.all_eq_true_iff_forall_mem, Bool.or_eq_true, Bool.not_eq_true', decide_eq_true_eq] at h1
    rcases h1.1.2 e he with h2 | h2
    · rw [hb] at h2; cases h2
    · exact h2
  · have hj := (Array.getElem?_eq_some_iff.1 ho).1
    have h1 := (h j hj).1
    simp only [chkOne, ho, Bool.and_eq_true] at h1
    have h2 := List.all_eq_true.1 h1.2 i (List.mem_range.2 hi)
    rw [hor] at h2
    simp only [Bool.not_true, Bool.false_or] at h2
    rw [← Array.any_toList, List.any_eq_true] at h2
    obtain ⟨e, he, h3⟩ := h2
    simp only [Bool.and_eq_true, Bool.or_eq_true, beq_iff_eq, decide_eq_true_eq] at h3
    exact ⟨e, Array.mem_toList_iff.1 he, h3.1, h3.2⟩
  · have h1 := (h j hj).2 i hij
    simp only [chkPair, hor, Bool.false_or, Bool.and_eq_true, Bool.not_eq_true'] at h1
    refine ⟨fun oi oj hoi hoj => ?_, h1.2⟩
    have h2 := h1.1
    simp only [hoi, hoj, Bool.and_eq_true] at h2
    refine ⟨fun d hd => ?_, fun d hd => ?_⟩
    · have h3 := h2.1
      rw [hd] at h3
      simp only [Bool.and_eq_true, Bool.not_eq_true', bne_iff_ne, ne_eq] at h3
      exact ⟨not_has h3.1, h3.2⟩
    · have h3 := h2.2
      rw [hd] at h3
      simp only [Bool.not_eq_true'] at h3
      exact not_has h3

section
variable {c : Cfg} {R : CallRel} {F : From} (hR : HR c R F) {ops : Array Oper} {Q : Exit → Act → World → Prop} (hdn : ∀ (i : Nat) (o : Oper) (t : Nat), ops[i]? = some o → o.dst = some t → t < F.n) {K : St → Prop}
  (hQ : ∀ s' a w, K s' → At F s' a w → Q .normal a w)
include hR hdn hQ

theorem ops_ok {cs : Nat → Cls} : ∀ (l : List Nat) (s : St) (a : Act) (w : World), Tr c R ops cs l s K → At F s a w → Go.wpOps c.P ops Q l a w
  | [], s, a, w, ⟨s', h1, h2, h3⟩, hA => hQ s' a w h3 (hA.same h1 h2)
  | i :: r, s, a, w, ⟨o, v, m, h1, h2, h3⟩, hA => by
    rw [Go.wpOps_cons]
    exact one_ok hR h1 h2 hA (fun t ht => hdn i o t h1 ht) fun a' w' hA' => ops_ok r _ _ _ h3 hA'

theorem any_ok {m : Array Nat} {cs : Nat → Cls} (hk : Chk ops m cs) : ∀ (fuel : Nat) (l : List Nat) (listed : Array Bool) (s : St) (a : Act) (w : World), l.length = fuel → listed.size = ops.size → l.Pairwise (· < ·) →
    (∀ i, i ∈ l ↔ listed.getD i true = false) → (∀ i j, j < i → i < ops.size → listed.getD i true = true → ordered m j i = true → listed.getD j true = true) → Tr c R ops cs l s K → At F s a w → wpAny c.P .any ops Q fuel listed a w
  | 0, l, listed, s, a, w, hl, hsz, hsort, hmem, hclo, hT, hA => by
    obtain rfl : l = [] := List.length_eq_zero_iff.1 hl
    refine ⟨List.eq_nil_iff_forall_not_mem.2 fun j hj => ?_, ?_⟩
    · have := (hmem j).2 (mem_ready.1 hj).1
      simp at this
    · obtain ⟨s', h1, h2, h3⟩ := hT
      exact hQ s' a w h3 (hA.same h1 h2)
  | fuel + 1, l, listed, s, a, w, hl, hsz, hsort, hmem, hclo, hT, hA => by
    have hlt : ∀ i, i ∈ l → i < ops.size := fun i hi => by
      have := (hmem i).1 hi
      rcases Nat.lt_or_ge i listed.size with h | h
      · omega
      · simp [Array.getD_eq_getD_getElem?, Array.getElem?_eq_none h] at this
    have hlisted : ∀ i, i ∉ l → i < ops.size → listed.getD i true = true ∧ listed.getD i false = true := fun i hi hs => by
      have h1 : listed.getD i true ≠ false := fun h => hi ((hmem i).2 h)
      have h2 : i < listed.size := by omega
      simp only [Array.getD_eq_getD_getElem?, Array.getElem?_eq_getElem h2, Option.getD_some] at h1 ⊢
      cases hb : listed[i] <;> simp_all
    refine ⟨fun hnil => ?_, fun i hi => ?_⟩
    · cases l with
      | nil => simp at hl
      | cons i0 r =>
        have hi0 := hlt i0 (by simp)
        have : i0 ∈ Region.ready .any ops listed := mem_ready.2 ⟨(hmem i0).1 (by simp), ops[i0], Array.getElem?_eq_getElem hi0, fun e he hb => by
          have := hk.back i0 _ (Array.getElem?_eq_getElem hi0) e he hb
          refine (hlisted e.on (fun hm => ?_) (by omega)).2
          rcases List.mem_cons.1 hm with h | h
          · omega
          · have := (List.pairwise_cons.1 hsort).1 _ h
            omega⟩
        rw [hnil] at this
        simp at this
    · obtain ⟨hi0, o, ho, hall⟩ := mem_ready.1 hi
      have hil := (hmem i).2 hi0
      obtain ⟨l1, l2, rfl⟩ := List.append_of_mem hil
      have hpre : ∀ j ∈ l1, j < i := fun j hj => (List.pairwise_append.1 hsort).2.2 j hj i (by simp)
      -- what is before i is listed
      have hbef : ∀ j, j < i → ordered m j i = true → listed.getD j true = true := fun j hj hor => by
        obtain ⟨e, he, hb, h1⟩ := hk.clo i o ho j hj hor
        have h2 := hall e he hb
        have h3 : listed.getD e.on true = true := by
          have hs : e.on < listed.size := by
            rcases Nat.lt_or_ge e.on listed.size with h | h
            · exact h
            · simp [Array.getD_eq_getD_getElem?, Array.getElem?_eq_none h] at h2
          simp only [Array.getD_eq_getD_getElem?, Array.getElem?_eq_getElem hs, Option.getD_some] at h2 ⊢
          exact h2
        rcases h1 with h1 | ⟨h1, h4⟩
        · rw [← h1]; exact h3
        · have := hk.back i o ho e he hb
          exact hclo e.on j h1 (by have := hlt i (by simp); omega) h3 h4
      have hT' := Tr.front l1 hT fun j hj => by
        have hor : ordered m j i = false := by
          cases hb : ordered m j i with
          | false => rfl
          | true =>
            have h1 := hbef j (hpre j hj) hb
            have h2 := (hmem j).1 (by simp [hj])
            rw [h1] at h2
            cases h2
        exact hk.pair j i (hpre j hj) (hlt i (by simp)) hor
      obtain ⟨o', v, mm, h1, h2, h3⟩ := hT'
      obtain rfl : o = o' := by rw [ho] at h1; injection h1
      refine one_ok hR ho h2 hA (fun t ht => hdn i o t ho ht) fun a' w' hA' => ?_
      have hnd : (l1 ++ i :: l2).Nodup := hsort.imp fun h => by omega
      have hni : i ∉ l1 ++ l2 := fun hm => by
        rw [List.nodup_append] at hnd
        rcases List.mem_append.1 hm with h | h
        · exact hnd.2.2 i h i (by simp) rfl
        · exact (List.nodup_cons.1 hnd.2.1).1 h
      refine any_ok hk fuel (l1 ++ l2) _ _ a' w' (by simp at hl ⊢; omega) (by simpa using hsz) (hsort.sublist (by simp)) (fun x => ?_) (fun x j hj hx hlx hor => ?_) h3 hA'
      · by_cases hxi : x = i
        · subst hxi
          have hs : x < listed.size := by have := hlt x (by simp); omega
          simp [hni, hs]
        · rw [getD_set_ne true (fun e => hxi e.symm), ← hmem x]
          simp [hxi]
      · have hjl : listed.getD j true = true → (listed.setIfInBounds i true).getD j true = true := fun h => by
          by_cases hji : i = j
          · subst hji
            have hs : i < listed.size := by have := hlt i (by simp); omega
            simp [hs]
          · rw [getD_set_ne true hji]; exact h
        by_cases hxi : x = i
        · subst hxi
          exact hjl (hbef j hj hor)
        · rw [getD_set_ne true (fun e => hxi e.symm)] at hlx
          exact hjl (hclo x j hj hx hlx hor)
end

theorem At.drawn {F : From} {s : St} {a : Act} {w : World} (h : At F s a w) (n : Nat) : At F s a { w with drawn := n } := by
  obtain ⟨g, hE, hm, hc, hs, hd⟩ := h
  have c := (Cur.start hm).draw { w with drawn := n } rfl rfl rfl (Nat.le_refl _) (fun _ _ => rfl)
  exact ⟨g, fun t => c.vr hm (hE t), c.ok, hc.next hm c.nx c.ok, hs, hd⟩

theorem region_ok {c : Cfg} {R : CallRel} {F : From} (hR : HR c R F) (hmix : c.P.follows .mixedOrders = true) {id : Nat} {ops : Array Oper} {draw : Bool} {nb : Nat} {s : St} {QV : Ex → St → Prop}
    (h : wp c R nb (.region id ops draw) s QV) {a : Act} {w : World} (hA : At F s a w) (ht : tmpsOk F.n (.region id ops draw) = true) {Q : Exit → Act → World → Prop} (hQ : ∀ s' a w, QV .normal s' → At F s' a w → Q .normal a w) :
    (Code.region id ops draw).wp c.P Q a w := by
  have hdn : ∀ (i : Nat) (o : Oper) (t : Nat), ops[i]? = some o → o.dst = some t → t < F.n := fun i o t ho hd => by
    simp only [tmpsOk, Array.all_eq_true_iff_forall_mem] at ht
    have := ht o (Array.mem_of_getElem? ho)
    rw [hd] at this
    simpa using this
  have hr : List.range' 0 ops.toList.length = List.range ops.size := by rw [List.range_eq_range']; simp
  cases draw with
  | false =>
    simp only [wp] at h
    obtain ⟨l, acc', h1, h2, h3⟩ := Tr.of ops ops.toList 0 s [] rfl h
    rw [hr] at h2
    exact wp_region (ops_ok hR hdn hQ _ s a w h2 hA)
  | true =>
    simp only [wp] at h
    obtain ⟨l, acc', h1, h2, h3⟩ := Tr.of ops ops.toList 0 s [] rfl h
    rw [hr] at h2
    have hacc : acc'.reverse = l := by rw [h3 rfl]; simp
    -- the check holds whatever the end
    have hchk : chk ops l = true := by
      have : ∀ (r : List Nat) (s : St), Tr c R ops (fun j => (l[j - 0]?).getD .pure) r s (fun s' => chk ops acc'.reverse = true ∧ QV .normal s') → chk ops acc'.reverse = true := by
        intro r
        induction r with
        | nil => exact fun s ⟨_, _, _, h⟩ => h.1
        | cons i r ih => exact fun s ⟨_, _, _, _, _, h⟩ => ih _ h
      have := this _ _ h2
      rwa [hacc] at this
    refine wp_region_any hmix (any_ok hR hdn (fun s' a w hK hA => hQ s' a w hK.2 hA) (Chk.of hchk) ops.size (List.range ops.size) _ s a _ (by simp) (by simp) List.pairwise_lt_range (fun i => ?_) (fun i j hj hi hl hor => ?_) h2 (hA.drawn _))
    · simp only [List.mem_range, Array.getD_eq_getD_getElem?]
      by_cases hi : i < ops.size
      · simp [hi]
      · simp [hi]
    · simp [Array.getD_eq_getD_getElem?, hi] at hl
end Go.Vm

namespace Go.Vm
open Go

section
variable {w : World} {g : Gh} {m : Mem} (hm : MemOk w g m)
include hm

theorem own_nil {mv : Value} (hv : VR w g .nilsl mv) (e : TypeId) {sz : Nat} (hsz : 0 < sz) : ∃ g', Cur w g m w g' { m with toks := m.toks ++ [.live e sz []] } ∧ VR w g' (.osl m.toks.length) mv := by
  obtain rfl := hv.nilsl_inv
  have c2 := (Cur.start hm).addTok (.slice none 0 0) 0 sz (.live e sz []) ⟨hsz, by simp [Gh.addT], by simp, .inl ⟨by simp [Gh.addT], rfl⟩⟩ (fun hn => absurd rfl hn)
  refine ⟨_, c2, ?_⟩
  have e1 : (g.addT (.slice none 0 0) 0 sz).S m.toks.length = .slice none 0 0 := by simp [Gh.addT, hm.nt]
  have := VR.osl (w := w) (g := g.addT (.slice none 0 0) 0 sz) m.toks.length (by rw [← hm.nt]; exact Nat.lt_succ_self _) (by rw [e1]; exact ⟨_, _, _, rfl⟩)
  rw [e1] at this
  exact this
/-- A cell told otherwise. -/
theorem cur_cell {b i : Nat} {v' : V} (h : ∀ cs u, m.blks[b]? = some cs → cs[i]? = some u → ∀ mv, VR w g u mv → VR w g v' mv) : Cur w g m w g { m with blks := setAt m.blks b fun cs => setAt cs i fun _ => v' } := by
  have key : ∀ l, Held { m with blks := setAt m.blks b fun cs => setAt cs i fun _ => v' } g l → Held m g l := fun l hl => by
    cases l with
    | blk b' => simpa [Held] using hl
    | tok k => exact hl
    | mp k => exact hl
  refine ⟨⟨by simp [hm.nb], hm.nt, hm.nm, fun b' cs hb => ?_, hm.tok, hm.map, fun l l' hl hl' he => hm.sep l l' (key l hl) (key l' hl') he, fun x hx => ⟨(hm.com x hx).1, fun l hl => (hm.com x hx).2 l (key l hl)⟩⟩,
    .refl _, rfl, rfl, rfl, Nat.le_refl _, fun _ _ _ => rfl, fun _ _ _ h => h, fun x hx ho l hl => ho l (key l hl)⟩
  simp only [getElem?_setAt] at hb
  split at hb
  · rename_i hbb
    subst hbb
    rw [Option.map_eq_some_iff] at hb
    obtain ⟨cs', hcs, rfl⟩ := hb
    obtain ⟨arr, e, h1, h2, h3⟩ := hm.blk b' cs' hcs
    refine ⟨arr, e, h1, by simpa using h2, fun j v hj => ?_⟩
    rw [getElem?_setAt] at hj
    split at hj
    · rename_i hji
      subst hji
      rw [Option.map_eq_some_iff] at hj
      obtain ⟨u, hu, rfl⟩ := hj
      exact h cs' u hcs hu _ (h3 j u hu)
    · exact h3 j v hj
  · exact hm.blk b' cs hb
theorem ownNil_ok {v : V} {mv : Value} (hv : VR w g v mv) (e : TypeId) (sz : Nat) : ∃ g', Cur w g m w g' (ownNil m v e sz).2 ∧ VR w g' (ownNil m v e sz).1 mv := by
  unfold ownNil
  split
  · split
    · exact ⟨g, .start hm, hv⟩
    · exact own_nil hm hv e (by omega)
  · exact ⟨g, .start hm, hv⟩
end

theorem At.shift {F : From} {s : St} {a : Act} {w : World} {g g' : Gh} {m' : Mem} {env' : List (Nat × V)} (hm : MemOk w g s.mem) (hc : CallNx F.w F.g F.m w g s.mem) (hs : a.tmps.size = F.n) (hd : a.defers = []) (c : Cur w g s.mem w g' m') (hE : ERel w g' env' a) :
    At F ⟨env', m'⟩ a w := ⟨g', hE, c.ok, hc.next hm c.nx c.ok, hs, hd⟩
theorem at_frzEnv {F : From} {a : Act} {w : World} : ∀ (r : List Nat) (s : St), At F s a w → At F (frzEnv s r) a w
  | [], s, h => h
  | t :: r, s, h => by
    refine at_frzEnv r _ ?_
    obtain ⟨g, hE, hm, hc, hs, hd⟩ := h
    obtain ⟨g', c, _, hv⟩ := (Cur.start hm).settle (hE t)
    refine At.shift hm hc hs hd c fun j => ?_
    simp only [lookE]
    split
    · rename_i h
      subst h
      exact hv
    · exact c.vr hm (hE j)
theorem at_ownEnv {F : From} {a : Act} {w : World} : ∀ (r : List (Nat × TypeId × Nat)) (s : St), At F s a w → At F (ownEnv s r) a w
  | [], s, h => h
  | (t, e, sz) :: r, s, h => by
    refine at_ownEnv r _ ?_
    obtain ⟨g, hE, hm, hc, hs, hd⟩ := h
    obtain ⟨g', c, hv⟩ := ownNil_ok hm (hE t) e sz
    refine At.shift hm hc hs hd c fun j => ?_
    simp only [lookE]
    split
    · rename_i h
      subst h
      exact hv
    · exact c.vr hm (hE j)
theorem at_ownBlk {F : From} {a : Act} {w : World} {env : List (Nat × V)} : ∀ (r : List (Nat × Nat × TypeId × Nat)) (m : Mem), At F ⟨env, m⟩ a w → At F ⟨env, ownBlk m r⟩ a w
  | [], m, h => h
  | (b, i, e, sz) :: r, m, h => by
    refine at_ownBlk r _ ?_
    obtain ⟨g, hE, hm, hc, hs, hd⟩ := h
    -- the cell's value, if it has one
    have key : ∃ g', Cur w g m w g' (ownNil m (((blkAt m.blks b)[i]?).getD .junk) e sz).2 ∧ ∀ cs u, m.blks[b]? = some cs → cs[i]? = some u → ∀ mv, VR w g' u mv → VR w g' (ownNil m (((blkAt m.blks b)[i]?).getD .junk) e sz).1 mv := by
      by_cases hn : ((blkAt m.blks b)[i]?).getD .junk = .nilsl ∧ sz ≠ 0
      · rw [hn.1]
        simp only [ownNil, if_neg hn.2]
        obtain ⟨g', c, hv⟩ := own_nil (mv := .slice none 0 0) hm (.data .nilsl) e (sz := sz) (by omega)
        refine ⟨g', c, fun cs u hcs hu mv hmv => ?_⟩
        have : u = .nilsl := by
          have := hn.1
          simpa [blkAt, hcs, hu] using this
        subst this
        rw [hmv.nilsl_inv]
        exact hv
      · have e1 : ownNil m (((blkAt m.blks b)[i]?).getD .junk) e sz = (((blkAt m.blks b)[i]?).getD .junk, m) := by
          unfold ownNil
          split
          · rename_i h0
            split
            · rw [h0]
            · rename_i hsz
              exact absurd ⟨h0, hsz⟩ hn
          · rfl
        rw [e1]
        refine ⟨g, .start hm, fun cs u hcs hu mv hmv => ?_⟩
        have : ((blkAt m.blks b)[i]?).getD .junk = u := by simp [blkAt, hcs, hu]
        rw [this]
        exact hmv
    obtain ⟨g', c, hv⟩ := key
    have hblks : (ownNil m (((blkAt m.blks b)[i]?).getD .junk) e sz).2.blks = m.blks := by
      unfold ownNil
      split
      · split <;> rfl
      · rfl
    have c2 := cur_cell c.ok (b := b) (i := i) (v' := (ownNil m (((blkAt m.blks b)[i]?).getD .junk) e sz).1) (by rw [hblks]; exact hv)
    rw [hblks] at c2
    exact At.shift hm hc hs hd ⟨c2.ok, c.nx.trans c2.nx⟩ fun j => c2.vr c.ok (c.vr hm (hE j))
theorem lookE_keep (env : List (Nat × V)) : ∀ (l : List Nat) (t : Nat), lookE (keepE env l) t = lookE env t ∨ lookE (keepE env l) t = .junk
  | [], t => .inr rfl
  | x :: r, t => by
    simp only [keepE, lookE]
    split
    · rename_i h
      subst h
      exact .inl rfl
    · exact lookE_keep env r t
theorem At.keep {F : From} {s : St} {a : Act} {w : World} (h : At F s a w) (l : List Nat) : At F ⟨keepE s.env l, s.mem⟩ a w := by
  obtain ⟨g, hE, hm, hc, hs, hd⟩ := h
  refine ⟨g, fun t => ?_, hm, hc, hs, hd⟩
  rcases lookE_keep s.env l t with h | h
  · rw [h]; exact hE t
  · rw [h]; exact .junk _
theorem lookE_ren (p q : Nat → Option Nat) : ∀ (env : List (Nat × V)) (t : Nat), lookE (renE p q env) t = (lookE env t).ren p q
  | [], t => rfl
  | (x, v) :: r, t => by
    simp only [renE, lookE]
    split
    · rfl
    · exact lookE_ren p q r t
theorem valsE_mem (env : List (Nat × V)) : ∀ (l : List Nat) (v : V), v ∈ valsE (keepE env l) → ∃ t, v = lookE env t
  | [], v, h => by simp [keepE, valsE] at h
  | x :: r, v, h => by
    simp only [keepE, valsE, List.mem_cons] at h
    rcases h with h | h
    · exact ⟨x, h⟩
    · exact valsE_mem env r v h
theorem gc_names {w : World} {g : Gh} {m : Mem} (hm : MemOk w g m) {nb : Nat} (hnb : nb ≤ m.blks.length) {vs : List V} (h1 : ∀ b ∈ ptrsL vs, b < g.nb) (h2 : ∀ k ∈ tksL vs, k < g.nt) : Names m (gcIds nb m vs) (gcKs m (gcIds nb m vs) vs) := by
  refine ⟨reach_nodup _ _ _ _ List.nodup_nil, fun x hx => ?_, dedup_nodup _ _ List.nodup_nil, fun k hk => ?_⟩
  · rcases reach_mem _ _ _ _ x hx with h | h | ⟨b, h⟩
    · simp at h
    · rcases List.mem_append.1 h with h | h
      · have := List.mem_range.1 h
        omega
      · rw [← hm.nb]; exact h1 x h
    · exact (blk_names hm b).1 x h
  · rcases dedup_mem _ _ k hk with h | h
    · simp at h
    · rcases List.mem_append.1 h with h | h
      · obtain ⟨cs, hcs, hk'⟩ := tksB_mem.1 h
        obtain ⟨b, _, rfl⟩ := List.mem_map.1 hcs
        exact (blk_names hm b).2 k hk'
      · rw [← hm.nt]; exact h2 k h
theorem gc_first (nb : Nat) (m : Mem) (vs : List V) : ∀ b, b < nb → b < (gcIds nb m vs).length ∧ nth (gcIds nb m vs) b = b := by
  obtain ⟨n', t', e⟩ := reach_first m.blks (List.range nb) (fuelOf m.blks (List.range nb ++ ptrsL vs)) [] (ptrsL vs) (by simpa using List.nodup_range) (by simp [fuelOf]; omega)
  have hp : List.range nb <+: gcIds nb m vs := by
    have := reach_prefix m.blks n' ([] ++ List.range nb) t'
    rw [← e] at this
    rw [List.nil_append] at this
    exact this
  obtain ⟨l, hl⟩ := hp
  intro b hb
  have h1 : b < (gcIds nb m vs).length := by rw [← hl]; simp; omega
  refine ⟨h1, ?_⟩
  have h2 := nth_get h1
  rw [← hl, List.getElem?_append_left (by simpa using hb), List.getElem?_range hb] at h2
  rw [← hl]
  injection h2 with h2
  exact h2.symm
/-- To a part of the memory that holds the caller's blocks ahead, in their order. -/
theorem sub_nx {w0 w : World} {g0 g : Gh} {m0 m : Mem} (hc : CallNx w0 g0 m0 w g m) {ids ks : List Nat} (hn : Names m ids ks) (hf : ∀ b, b < m0.blks.length → b < ids.length ∧ nth ids b = b) : CallNx w0 g0 m0 w (subG g ids ks) (subMem m ids ks) :=
  ⟨fun b hb => ⟨by simpa [subMem] using (hf b hb).1, by simp only [subG]; rw [(hf b hb).2]; exact (hc.m b hb).2⟩, hc.C, hc.os, hc.tape, hc.output, hc.size, hc.keep, hc.new, fun h hh ho => sub_off hn (hc.off h hh ho)⟩
theorem at_forget {F : From} {s : St} {a : Act} {w : World} (h : At F s a w) (d : Keep) : At F (forget F.m.blks.length d s) a w := by
  have h1 := at_ownEnv d.nils _ (at_frzEnv d.frz s h)
  have h2 : At F ⟨(ownEnv (frzEnv s d.frz) d.nils).env, ownBlk (ownEnv (frzEnv s d.frz) d.nils).mem d.bnils⟩ a w := at_ownBlk d.bnils _ h1
  unfold forget
  simp only
  generalize ownBlk (ownEnv (frzEnv s d.frz) d.nils).mem d.bnils = m at h2 ⊢
  generalize (ownEnv (frzEnv s d.frz) d.nils).env = env at h2 ⊢
  obtain ⟨g, hE, hm, hc, hs, hd⟩ := h2
  have hl : F.m.blks.length ≤ m.blks.length := by
    by_cases h0 : F.m.blks.length = 0
    · omega
    · have := (hc.m (F.m.blks.length - 1) (by omega)).1
      have : (⟨env, m⟩ : St).mem = m := rfl
      simp only at *
      omega
  have hn : Names m (gcIds F.m.blks.length m (valsE (keepE env d.env))) (gcKs m (gcIds F.m.blks.length m (valsE (keepE env d.env))) (valsE (keepE env d.env))) := by
    refine gc_names hm hl (fun b hb => ?_) (fun k hk => ?_)
    · obtain ⟨v, hv, hx⟩ := ptrsL_mem.1 hb
      obtain ⟨t, rfl⟩ := valsE_mem _ _ _ hv
      exact (hE t).names.1 b hx
    · obtain ⟨v, hv, hx⟩ := tksL_mem.1 hk
      obtain ⟨t, rfl⟩ := valsE_mem _ _ _ hv
      exact (hE t).names.2 k hx
  refine ⟨_, fun t => ?_, sub_ok hm hn, sub_nx hc hn (gc_first _ _ _), hs, hd⟩
  rw [lookE_ren]
  rcases lookE_keep env d.env t with h | h
  · rw [h]; exact (hE t).ren (sub_ren _ _ _)
  · rw [h]; exact .junk _
theorem at_weak {F : From} {s s' : St} {a : Act} {w : World} (h : At F s a w) (hw : Weak F.m.blks.length s s') : At F s' a w := by
  rcases hw with rfl | ⟨d, rfl⟩
  · exact h
  · exact at_forget h d

/-! A function's results -/
theorem resV_ok {P : Program} {w : World} {g : Gh} {m : Mem} (hm : MemOk w g m) (t : TypeId) {v : V} {mv : Value} (hv : VR w g v mv) : ∃ g', Cur w g m w g' (resV P m t v).2 ∧ VR w g' (resV P m t v).1 mv := by
  unfold resV
  split
  · split
    · rename_i e sz hes
      refine own_nil hm hv e ?_
      unfold elemSize at hes
      split at hes
      · split at hes
        · split at hes
          · cases hes
          · injection hes with hes
            injection hes with h1 h2
            omega
        · cases hes
      · cases hes
    · exact ⟨g, .start hm, hv⟩
  · exact ⟨g, .start hm, hv.norm hm⟩
  · exact ⟨g, .start hm, hv⟩
  · obtain ⟨g2, h1, h2, h3⟩ := (Cur.start hm).settle hv
    exact ⟨g2, h1, h3⟩
theorem resL_ok {P : Program} {w : World} : ∀ (vs : List V) (ts : List TypeId) (g : Gh) (m : Mem) (As : List Value), MemOk w g m → vs.length = As.length → (∀ (i : Nat) (u : V) (x : Value), vs[i]? = some u → As[i]? = some x → VR w g u x) →
    ∃ g', Cur w g m w g' (resL P m ts vs).2 ∧ (resL P m ts vs).1.length = As.length ∧ ∀ (i : Nat) (u : V) (x : Value), (resL P m ts vs).1[i]? = some u → As[i]? = some x → VR w g' u x
  | [], ts, g, m, As, hm, hl, hv => ⟨g, by simpa [resL] using Cur.start hm, by simpa [resL] using hl, by simp [resL]⟩
  | v :: vs, [], g, m, As, hm, hl, hv => ⟨g, by simpa [resL] using Cur.start hm, by simpa [resL] using hl, by simpa [resL] using hv⟩
  | v :: vs, t :: ts, g, m, [], hm, hl, hv => by simp at hl
  | v :: vs, t :: ts, g, m, x :: As, hm, hl, hv => by
    obtain ⟨g1, c1, h1⟩ := resV_ok (P := P) hm t (hv 0 v x rfl rfl)
    obtain ⟨g2, c2, h2, h3⟩ := resL_ok vs ts g1 _ As c1.ok (by simpa using hl) fun i u y hu hy => c1.vr hm (hv (i + 1) u y (by simpa using hu) (by simpa using hy))
    refine ⟨g2, ⟨c2.ok, c1.nx.trans c2.nx⟩, by simpa [resL] using h2, fun i u y hu hy => ?_⟩
    cases i with
    | zero =>
      simp only [resL, List.getElem?_cons_zero, Option.some.injEq] at hu hy
      subst hu hy
      exact c2.vr c1.ok h1
    | succ i =>
      simp only [resL, List.getElem?_cons_succ] at hu hy
      exact h3 i u y hu hy
def resGet (tmps : Array Value) : ResultVar → Sem Value
  | .tmp t => pure (tmps.getD t undef)
  | .cell x t => do loadVar t (← asAddr (tmps.getD x undef))
theorem results_eq (fn : Func) (tmps : Array Value) : results fn tmps = (do let vs ← fn.results.mapM (resGet tmps); pure (if h : vs.size = 1 then vs[0] else .tuple vs)) := by
  unfold results
  congr 1
theorem resVals_ok {P : Program} {w : World} {g : Gh} {s : St} {a : Act} (hE : ERel w g s.env a) (hm : MemOk w g s.mem) : ∀ (rs : List ResultVar) (vs : List V), resVals P s rs = some vs →
    ∃ As : List Value, As.length = rs.length ∧ vs.length = As.length ∧ (∀ (i : Nat) (u : V) (x : Value), vs[i]? = some u → As[i]? = some x → VR w g u x) ∧
      (rs.mapM (resGet a.tmps)).run P w = .ok As w
  | [], vs, h => by
    simp only [resVals, Option.some.injEq] at h
    subst h
    exact ⟨[], rfl, rfl, by simp, by simp⟩
  | .tmp t :: rs, vs, h => by
    simp only [resVals] at h
    split at h
    · rename_i us hus
      injection h with h
      subst h
      obtain ⟨As, h1, h2, h3, h4⟩ := resVals_ok hE hm rs us hus
      refine ⟨a.tmps.getD t undef :: As, by simp [h1], by simp [h2], fun i u x hu hx => ?_, ?_⟩
      · cases i with
        | zero =>
          simp only [List.getElem?_cons_zero, Option.some.injEq] at hu hx
          subst hu hx
          exact hE t
        | succ i => exact h3 i u x (by simpa using hu) (by simpa using hx)
      · rw [List.mapM_cons]
        simp only [resGet, Sem.run_bind, Sem.run_pure, Result.andThen, h4]
    · cases h
  | .cell x t :: rs, vs, h => by
    simp only [resVals] at h
    split at h
    · rename_i ty hty
      split at h
      · rename_i v us hv hus
        injection h with h
        subst h
        obtain ⟨As, h1, h2, h3, h4⟩ := resVals_ok hE hm rs us hus
        obtain ⟨mv, hrun, hr⟩ := load_rel hm hty (hE x) hv
        refine ⟨mv :: As, by simp [h1], by simp [h2], fun i u y hu hy => ?_, ?_⟩
        · cases i with
          | zero =>
            simp only [List.getElem?_cons_zero, Option.some.injEq] at hu hy
            subst hu hy
            exact hr
          | succ i => exact h3 i u y (by simpa using hu) (by simpa using hy)
        · rw [List.mapM_cons]
          have key : ∃ ad, a.tmps.getD x undef = .pointer (some ad) ∧ (loadVar t ad).run P w = .ok mv w := by
            have hrun' : (Instr.loadAt t (a.tmps.getD x undef)).run P w = .ok mv w := hrun
            generalize a.tmps.getD x undef = y at hrun' ⊢
            unfold Instr.loadAt Instr.sureAddr at hrun'
            split at hrun'
            · exact ⟨_, rfl, by simpa using hrun'⟩
            · simp [stuck] at hrun'
          obtain ⟨ad, had, hld⟩ := key
          have hasA : (asAddr (.pointer (some ad))).run P w = .ok ad w := rfl
          simp only [resGet, Sem.run_bind, Sem.run_pure, Result.andThen, h4, had, hasA, hld]
      · cases h
    · cases h

/-- The results as the caller sees them. -/
theorem fin_ok {P : Program} {fn : Func} {F : From} {s : St} {a : Act} {w : World} (hA : At F s a w) {r : V} {m' : Mem} (h : fin P fn.results.toList fn.resultTypes.toList F.m.blks.length s = some (r, m')) :
    ∃ mv g', (results fn a.tmps).run P w = .ok mv w ∧ VR w g' r mv ∧ MemOk w g' m' ∧ CallNx F.w F.g F.m w g' m' := by
  obtain ⟨g, hE, hm, hc, hs, hd⟩ := hA
  unfold fin at h
  split at h
  · rename_i vs hvs
    obtain ⟨As, h1, h2, h3, h4⟩ := resVals_ok hE hm _ _ hvs
    obtain ⟨g1, c1, h5, h6⟩ := resL_ok (P := P) vs fn.resultTypes.toList g s.mem As hm h2 h3
    simp only at h
    generalize hq : resL P s.mem fn.resultTypes.toList vs = q at h c1 h5 h6
    -- the one value, or the tuple
    have hval : ∃ mv, (results fn a.tmps).run P w = .ok mv w ∧ VR w g1 (oneV q.1) mv := by
      have hrun : (fn.results.mapM (resGet a.tmps)).run P w = .ok As.toArray w := by
        have e : fn.results = fn.results.toList.toArray := by simp
        rw [e, List.mapM_toArray]
        simp only [Sem.run_map] at h4 ⊢
        rw [h4]
        rfl
      refine ⟨if hh : As.toArray.size = 1 then As.toArray[0] else .tuple As.toArray, ?_, ?_⟩
      · rw [results_eq]
        simp only [Sem.run_bind]
        rw [hrun]
        simp [Result.andThen]
      · by_cases hone : As.length = 1
        · obtain ⟨x, rfl⟩ := List.length_eq_one_iff.1 hone
          obtain ⟨u, hu⟩ := List.length_eq_one_iff.1 (h5.trans hone)
          rw [hu]
          have := h6 0 u x (by rw [hu]; rfl) rfl
          simpa [oneV] using this
        · rw [dif_neg (by simpa using hone)]
          have e : oneV q.1 = .tuple q.1 := by
            unfold oneV
            split
            · rename_i v hv
              rw [hv] at h5
              simp at h5
              omega
            · rfl
          rw [e]
          refine .tuple _ _ (by simp [h5]) fun i u hu => ?_
          have hi : i < As.length := by rw [← h5]; exact (List.getElem?_eq_some_iff.1 hu).1
          have := h6 i u As[i] hu (List.getElem?_eq_getElem hi)
          simpa [Array.getD_eq_getD_getElem?, hi] using this
    obtain ⟨mv, hrun, hv⟩ := hval
    have hc1 := hc.next hm c1.nx c1.ok
    injection h with h
    injection h with hr hm'
    subst hr hm'
    have hl : F.m.blks.length ≤ q.2.blks.length := by
      by_cases h0 : F.m.blks.length = 0
      · omega
      · have := (hc1.m (F.m.blks.length - 1) (by omega)).1
        omega
    generalize oneV q.1 = rv at hv ⊢
    have hn : Names q.2 (gcIds F.m.blks.length q.2 [rv]) (gcKs q.2 (gcIds F.m.blks.length q.2 [rv]) [rv]) := by
      refine gc_names c1.ok hl (fun b hb => ?_) (fun k hk => ?_)
      · obtain ⟨v, hv', hx⟩ := ptrsL_mem.1 hb
        simp only [List.mem_singleton] at hv'
        subst hv'
        exact hv.names.1 b hx
      · obtain ⟨v, hv', hx⟩ := tksL_mem.1 hk
        simp only [List.mem_singleton] at hv'
        subst hv'
        exact hv.names.2 k hx
    exact ⟨mv, _, hrun, hv.ren (sub_ren _ _ _), sub_ok c1.ok hn, sub_nx hc1 hn (gc_first _ _ _)⟩
  · cases h
end Go.Vm

namespace Go.Vm
open Go

def exOf : Ex → Exit
  | .normal => .normal
  | .exit id => .exit id
  | .ret => .ret
section
variable {c : Cfg} {R : CallRel} {F : From} (hR : HR c R F) (hmix : c.P.follows .mixedOrders = true)
include hR hmix

theorem code_ok : ∀ (cd : Code) (s : St) (QV : Ex → St → Prop), wp c R F.m.blks.length cd s QV → ∀ (a : Act) (w : World), At F s a w → tmpsOk F.n cd = true → ∀ (Q : Exit → Act → World → Prop),
    (∀ e s' a w, QV e s' → At F s' a w → Q (exOf e) a w) → cd.wp c.P Q a w := by
  intro cd
  induction cd with
  | skip => exact fun s QV h a w hA ht Q hQ => wp_skip (hQ .normal s a w h hA)
  | region id ops draw => exact fun s QV h a w hA ht Q hQ => region_ok hR hmix h hA ht fun s' a w hq hA' => hQ .normal s' a w hq hA'
  | seq x y ihx ihy =>
    intro s QV h a w hA ht Q hQ
    simp only [tmpsOk, Bool.and_eq_true] at ht
    refine wp_seq (ihx s _ h a w hA ht.1 _ fun e s' a w hq hA' => ?_)
    cases e with
    | normal => exact ihy s' QV hq a w hA' ht.2 Q hQ
    | exit id => exact hQ _ _ _ _ hq hA'
    | ret => exact hQ _ _ _ _ hq hA'
  | cond q x y ihx ihy =>
    intro s QV h a w hA ht Q hQ
    simp only [tmpsOk, Bool.and_eq_true] at ht
    simp only [wp, boolK] at h
    split at h
    · rename_i t hv
      have hq : a.eval q = .bool t := by
        obtain ⟨g, hE, _⟩ := hA
        have := get_rel hE q
        rw [hv] at this
        exact this.bool_inv
      refine wp_cond hq ?_
      cases t with
      | true => exact ihx s QV (h.1 rfl) a w hA ht.1 Q hQ
      | false => exact ihy s QV (h.2 rfl) a w hA ht.2 Q hQ
    · exact h.elim
  | block id x ih =>
    intro s QV h a w hA ht Q hQ
    refine wp_block (ih s _ h a w hA ht _ fun e s' a w hq hA' => ?_)
    cases e with
    | normal => exact hQ _ _ _ _ hq hA'
    | exit i =>
      simp only [blockK] at hq
      simp only [exOf, Exit.inBlock]
      split
      · rename_i h
        rw [if_pos h] at hq
        exact hQ .normal _ _ _ hq hA'
      · rename_i h
        rw [if_neg h] at hq
        exact hQ (.exit i) _ _ _ hq hA'
    | ret => exact hQ _ _ _ _ hq hA'
  | loop x ih =>
    intro s QV h a w hA ht Q hQ
    obtain ⟨s0, hw, n, hn⟩ := h
    refine wp_loop_rounds n ?_
    have key : ∀ n s, iterK (wp c R F.m.blks.length x) F.m.blks.length n s QV → ∀ a w, At F s a w → Code.rounds c.P x Q n a w := by
      intro n
      induction n with
      | zero => exact fun s h => h.elim
      | succ n ihn =>
        intro s h a w hA
        refine ih s _ h a w hA ht _ fun e s' a w hq hA' => ?_
        cases e with
        | normal =>
          obtain ⟨s'', hw', hn'⟩ := hq
          exact ihn s'' hn' a w (at_weak hA' hw')
        | exit id => exact hQ _ _ _ _ hq hA'
        | ret => exact hQ _ _ _ _ hq hA'
    exact key n s0 hn a w (at_weak hA hw)
  | exit id => exact fun s QV h a w hA ht Q hQ => wp_exit (hQ (.exit id) s a w h hA)
  | ret => exact fun s QV h a w hA ht Q hQ => wp_ret (hQ .ret s a w h hA)
  | _ => exact fun s QV h => h.elim

omit hR hmix in
theorem lookE_arg : ∀ (args : List V) (i t : Nat), lookE (argE i args) t = if i ≤ t then (args[t - i]?).getD .junk else .junk
  | [], i, t => by simp [argE, lookE]
  | v :: r, i, t => by
    simp only [argE, lookE]
    split
    · rename_i h
      subst h
      simp
    · rename_i h
      rw [lookE_arg r (i + 1) t]
      by_cases hit : i ≤ t
      · rw [if_pos (by omega), if_pos hit]
        have : t - i = (t - (i + 1)) + 1 := by omega
        rw [this, List.getElem?_cons_succ]
      · rw [if_neg (by omega), if_neg hit]
omit hR hmix in
theorem body_ok (hR : ∀ g a m r m', R g a m r m' → Snd c.P c.J g a m r m') (hip : ∀ g e sz xs ys, c.ip g e sz xs ys → SndIp c.P g e sz xs ys) (hst : Stable c.J) (hmix : c.P.follows .mixedOrders = true) {g : FuncId} {args : List V} {m : Mem} {r : V} {m' : Mem} (h : Body c R g args m r m') : Snd c.P c.J g args m r m' := by
  obtain ⟨fn, body, h1, h2, h3, h4, h5⟩ := h
  simp only [okFn, Bool.and_eq_true, bne_iff_ne, ne_eq] at h4
  refine ⟨⟨fn, h1, by rw [h2]; rfl, by simpa using h4.1⟩, fun w gh A hJ hA hm => ?_⟩
  refine calls_of_wp h1 h2 ?_
  have hAs := hA.1
  let F : From := ⟨w, gh, m, fn.ntmps⟩
  have hAt : At F ⟨argE 0 args, m⟩ { tmps := A ++ Array.replicate (fn.ntmps - A.size) undef, defers := [] } w := by
    refine ⟨gh, fun t => ?_, hm, .start hm, by simp [F]; omega, rfl⟩
    rw [lookE_arg]
    simp only [Nat.zero_le, if_true, Nat.sub_zero]
    cases ht : args[t]? with
    | none => exact .junk _
    | some u =>
      have hlt : t < A.size := by rw [hAs]; exact (List.getElem?_eq_some_iff.1 ht).1
      have := hA.2 t u ht
      simp only [Option.getD_some]
      rw [Array.getD_eq_getD_getElem?, Array.getElem?_append_left hlt, ← Array.getD_eq_getD_getElem?]
      exact this
  refine code_ok (F := F) ⟨hR, hip, hm, hJ, hst⟩ hmix body _ _ h5 _ w hAt h4.2 _ fun e s' a' w' hq hA' => ?_
  obtain ⟨he, hf⟩ := hq
  obtain ⟨mv, g', hrun, hv, hm', hc⟩ := fin_ok hA' hf
  have hd : a'.defers = [] := hA'.choose_spec.2.2.2.2
  rcases he with rfl | rfl
  · exact ⟨hd, mv, hrun, mv, g', rfl, hv, hm', hc⟩
  · exact ⟨hd, mv, hrun, mv, g', rfl, hv, hm', hc⟩
end
/-- The account is true. -/
theorem Run.sound {c : Cfg} {X : CallRel} (hst : Stable c.J) (hmix : c.P.follows .mixedOrders = true) (hX : ∀ g a m r m', X g a m r m' → Snd c.P c.J g a m r m') (hip : ∀ g e sz xs ys, c.ip g e sz xs ys → SndIp c.P g e sz xs ys) {g : FuncId} {args : List V} {m : Mem} {r : V} {m' : Mem} (h : Run c X g args m r m') : Snd c.P c.J g args m r m' :=
  h _ hX fun g a m r m' hb => body_ok (fun _ _ _ _ _ h => h) hip hst hmix hb
end Go.Vm
