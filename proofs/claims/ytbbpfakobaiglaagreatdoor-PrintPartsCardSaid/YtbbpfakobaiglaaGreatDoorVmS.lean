/- Rules by which the abstract machine's code is walked. No condition. -/
import Derived.Test.YtbbpfakobaiglaaGreatDoorVmA
set_option linter.unusedVariables false
set_option linter.unusedSimpArgs false
namespace Go.Vm
open Go
def finR4 (m : Mem) (r : V) (ids ks : List Nat) : Option (V × Mem) := some (r.ren (idx ids) (idx ks), subMem m ids ks)
def finR3 (nb : Nat) (m : Mem) (r : V) (ids : List Nat) : Option (V × Mem) := finR4 m r ids (gcKs m ids [r])
def finR2 (nb : Nat) (p : List V × Mem) : Option (V × Mem) := finR3 nb p.2 (oneV p.1) (gcIds nb p.2 [oneV p.1])
def finR (P : Program) (rts : List TypeId) (nb : Nat) (m : Mem) : Option (List V) → Option (V × Mem)
  | some vs => finR2 nb (resL P m rts vs)
  | none => none
def forget5 (m : Mem) (env : List (Nat × V)) (ids ks : List Nat) : St := ⟨renE (idx ids) (idx ks) env, subMem m ids ks⟩
def forget4 (m : Mem) (env : List (Nat × V)) (ids : List Nat) : St := forget5 m env ids (gcKs m ids (valsE env))
def forget3 (nb : Nat) (m : Mem) (env : List (Nat × V)) : St := forget4 m env (gcIds nb m (valsE env))
def forget2 (nb : Nat) (d : Keep) (s : St) : St := forget3 nb (ownBlk s.mem d.bnils) (keepE s.env d.env)
section
variable {c : Cfg} {R : CallRel} {nb : Nat} {s : St} {Q : Ex → St → Prop}
@[simp] theorem wp_skip : wp c R nb .skip s Q = Q .normal s := eq_of_heq HEq.rfl
@[simp] theorem wp_ret : wp c R nb .ret s Q = Q .ret s := eq_of_heq HEq.rfl
@[simp] theorem wp_exit {id : Nat} : wp c R nb (.exit id) s Q = Q (.exit id) s := eq_of_heq HEq.rfl
@[simp ↓] theorem wp_seq {a b : Code} : wp c R nb (.seq a b) s Q = wp c R nb a s (thenK (fun s' => wp c R nb b s' Q) Q) := eq_of_heq HEq.rfl
@[simp ↓] theorem wp_block {id : Nat} {a : Code} : wp c R nb (.block id a) s Q = wp c R nb a s (blockK id Q) := eq_of_heq HEq.rfl
@[simp ↓] theorem wp_region0 {id : Nat} {ops : List Oper} : wp c R nb (.region id ops.toArray false) s Q = wpOps c R ops false ops s [] fun _ s' => Q .normal s' := by simp [wp]
@[simp ↓] theorem wp_region1 {id : Nat} {ops : List Oper} : wp c R nb (.region id ops.toArray true) s Q = wpOps c R ops true ops s [] fun acc s' => chk ops.toArray acc.reverse = true ∧ Q .normal s' := by simp [wp]
@[simp ↓] theorem wp_cond {q : Operand} {a b : Code} : wp c R nb (.cond q a b) s Q = boolK (wp c R nb a s Q) (wp c R nb b s Q) (s.get q) := eq_of_heq HEq.rfl
@[simp high] theorem boolK_true {p q : Prop} : boolK p q (.bool true) = p := by simp [boolK]
@[simp high] theorem boolK_false {p q : Prop} : boolK p q (.bool false) = q := by simp [boolK]
theorem boolK_by {t : Bool} {p q : Prop} (h1 : t = true → p) (h2 : t = false → q) : boolK p q (.bool t) := ⟨h1, h2⟩
@[simp] theorem thenK_normal {n : St → Prop} : thenK n Q .normal s = n s := eq_of_heq HEq.rfl
@[simp] theorem thenK_exit {n : St → Prop} {id : Nat} : thenK n Q (.exit id) s = Q (.exit id) s := eq_of_heq HEq.rfl
@[simp] theorem thenK_ret {n : St → Prop} : thenK n Q .ret s = Q .ret s := eq_of_heq HEq.rfl
@[simp] theorem blockK_normal {id : Nat} : blockK id Q .normal s = Q .normal s := eq_of_heq HEq.rfl
@[simp] theorem blockK_exit {id i : Nat} : blockK id Q (.exit i) s = if i = id then Q .normal s else Q (.exit i) s := eq_of_heq HEq.rfl
@[simp] theorem blockK_ret {id : Nat} : blockK id Q .ret s = Q .ret s := eq_of_heq HEq.rfl
end
/-- The state is brought into its plain form ahead of what follows. -/
def cont (F : Cls → St → Prop) (k : On F Cls) (s : On F St) : Prop := F k s
@[simp] theorem cont_mk {F : Cls → St → Prop} {k : Cls} {e : List (Nat × V)} {m : Mem} : cont F k ⟨e, m⟩ = F k ⟨e, m⟩ := eq_of_heq HEq.rfl
section
variable {c : Cfg} {R : CallRel} {all : List Oper} {draw : Bool} {s : St} {acc : List Cls} {K : List Cls → St → Prop}
@[simp] theorem wpOps_nil : wpOps c R all draw [] s acc K = K acc s := eq_of_heq HEq.rfl
@[simp ↓] theorem wpOps_cons {d : Option Nat} {op : Op} {t : TypeId} {pos : String} {af : Array Edge} {os : List Oper} :
    wpOps c R all draw (⟨d, op, t, pos, af, none⟩ :: os) s acc K = stepK c R all ⟨d, op, t, pos, af, none⟩ s fun k v m => cont (fun k s' => wpOps c R all draw os s' (book draw k acc) K) k ⟨putE s.env d v, m⟩ := eq_of_heq HEq.rfl
@[simp ↓] theorem wpOps_consG {d : Option Nat} {op : Op} {t : TypeId} {pos : String} {af : Array Edge} {os : List Oper} {j : Nat} {w : Bool} :
    wpOps c R all draw (⟨d, op, t, pos, af, some (j, w)⟩ :: os) s acc K =
      guardK (stepK c R all ⟨d, op, t, pos, af, some (j, w)⟩ s fun k v m => cont (fun k s' => wpOps c R all draw os s' (book draw k acc) K) k ⟨putE s.env d v, m⟩)
        (cont (fun k s' => wpOps c R all draw os s' (book draw k acc) K) .pure ⟨putE s.env d (.tuple []), s.mem⟩) (guardVal all j s) w := eq_of_heq HEq.rfl
@[simp high] theorem guardK_same {b : Bool} {p q : Prop} : guardK p q (.bool b) b = p := by simp [guardK]
@[simp high] theorem guardK_none {p q : Prop} {w : Bool} : guardK p q (.tuple []) w = q := by simp [guardK]
@[simp high] theorem guardK_tf {p q : Prop} : guardK p q (.bool true) false = q := by simp [guardK]
@[simp high] theorem guardK_ft {p q : Prop} : guardK p q (.bool false) true = q := by simp [guardK]
theorem guardK_true {b : Bool} {p q : Prop} (h1 : b = true → p) (h2 : b = false → q) : guardK p q (.bool b) true := ⟨h1, fun h => h2 (by simpa using h)⟩
theorem guardK_false {b : Bool} {p q : Prop} (h1 : b = true → q) (h2 : b = false → p) : guardK p q (.bool b) false := ⟨h2, fun h => h1 (by simpa using h)⟩
end
section
variable {c : Cfg} {R : CallRel} {all : List Oper} {s : St} {K : Cls → V → Mem → Prop} {d : Option Nat} {t : TypeId} {pos : String} {af : Array Edge} {g : Option (Nat × Bool)}
@[simp] theorem effK_some {p : Prop} {v : V} {m : Mem} {k : Cls} : effK K (some ⟨p, v, m⟩) k = (p ∧ K k v m) := eq_of_heq HEq.rfl
@[simp] theorem effK_true {v : V} {m : Mem} {k : Cls} : effK K (some ⟨True, v, m⟩) k = K k v m := by simp [effK]
@[simp ↓] theorem stepK_call {f : Operand} {as : Array Operand} {ts : Array TypeId} :
    stepK c R all ⟨d, .call ⟨.value f, as, ts⟩, t, pos, af, g⟩ s K = callK c R K s.mem (s.get f) (as.toList.map s.get) := rfl
@[simp ↓] theorem stepK_pick {q a b : Operand} : stepK c R all ⟨d, .pick q a b, t, pos, af, g⟩ s K = boolK (K .pure (s.get a) s.mem) (K .pure (s.get b) s.mem) (s.get q) := eq_of_heq HEq.rfl
@[simp ↓] theorem stepK_move {x : Operand} : stepK c R all ⟨d, .move x, t, pos, af, g⟩ s K = K .pure (s.get x) s.mem := by simp [stepK, evalOp, clsOf, clsC, effK]
@[simp ↓] theorem stepK_assign {x : Operand} : stepK c R all ⟨d, .assign x, t, pos, af, g⟩ s K = K .pure (s.get x) s.mem := by simp [stepK, evalOp, clsOf, clsC, effK]
@[simp ↓] theorem stepK_load {a : Operand} {ty : TypeId} : stepK c R all ⟨d, .load ty a, t, pos, af, g⟩ s K = effK K (evalOp c.P false s (.load ty a)) (clsOf s (.load ty a)) := eq_of_heq HEq.rfl
@[simp ↓] theorem stepK_store {a x : Operand} {ty : TypeId} : stepK c R all ⟨d, .store ty a x, t, pos, af, g⟩ s K = effK K (evalOp c.P false s (.store ty a x)) (clsOf s (.store ty a x)) := eq_of_heq HEq.rfl
@[simp ↓] theorem stepK_alloc {ty : TypeId} : stepK c R all ⟨d, .alloc ty, t, pos, af, g⟩ s K = effK K (evalOp c.P false s (.alloc ty)) (clsOf s (.alloc ty)) := eq_of_heq HEq.rfl
@[simp ↓] theorem stepK_box {x : Operand} {ty : TypeId} : stepK c R all ⟨d, .box ty x, t, pos, af, g⟩ s K = effK K (evalOp c.P false s (.box ty x)) (clsOf s (.box ty x)) := eq_of_heq HEq.rfl
@[simp ↓] theorem stepK_build {ps : Array (Nat × Operand)} {ty : TypeId} : stepK c R all ⟨d, .build ty ps, t, pos, af, g⟩ s K = effK K (evalOp c.P false s (.build ty ps)) (clsOf s (.build ty ps)) := eq_of_heq HEq.rfl
@[simp ↓] theorem stepK_buildSlice {ps : Array (Nat × Operand)} {ty : TypeId} {n : Nat} : stepK c R all ⟨d, .buildSlice ty n ps, t, pos, af, g⟩ s K = effK K (evalOp c.P (coldIn d all) s (.buildSlice ty n ps)) (clsC (coldIn d all) s (.buildSlice ty n ps)) := eq_of_heq HEq.rfl
@[simp ↓] theorem stepK_nilCheck {x : Operand} : stepK c R all ⟨d, .nilCheck x, t, pos, af, g⟩ s K = effK K (evalOp c.P false s (.nilCheck x)) (clsOf s (.nilCheck x)) := eq_of_heq HEq.rfl
@[simp ↓] theorem stepK_binOp {x y : Operand} {op : BinOp} {ty ty' : TypeId} : stepK c R all ⟨d, .binOp op ty x y ty', t, pos, af, g⟩ s K = effK K (evalOp c.P false s (.binOp op ty x y ty')) (clsOf s (.binOp op ty x y ty')) := eq_of_heq HEq.rfl
@[simp ↓] theorem stepK_unOp {x : Operand} {op : UnOp} {ty : TypeId} : stepK c R all ⟨d, .unOp op ty x, t, pos, af, g⟩ s K = effK K (evalOp c.P false s (.unOp op ty x)) (clsOf s (.unOp op ty x)) := eq_of_heq HEq.rfl
@[simp ↓] theorem stepK_convert {x : Operand} {ty ty' : TypeId} : stepK c R all ⟨d, .convert ty ty' x, t, pos, af, g⟩ s K = effK K (evalOp c.P false s (.convert ty ty' x)) (clsOf s (.convert ty ty' x)) := eq_of_heq HEq.rfl
@[simp ↓] theorem stepK_makeFunc {f : Fn} {x y : Array Operand} : stepK c R all ⟨d, .makeFunc f x y, t, pos, af, g⟩ s K = effK K (evalOp c.P false s (.makeFunc f x y)) (clsOf s (.makeFunc f x y)) := eq_of_heq HEq.rfl
@[simp ↓] theorem stepK_slice {ty : TypeId} {x : Operand} {lo hi mx : Option Operand} : stepK c R all ⟨d, .slice ty x lo hi mx, t, pos, af, g⟩ s K = effK K (evalOp c.P false s (.slice ty x lo hi mx)) (clsOf s (.slice ty x lo hi mx)) := eq_of_heq HEq.rfl
@[simp ↓] theorem stepK_fieldAddr {ty : TypeId} {x : Operand} {f : Nat} : stepK c R all ⟨d, .fieldAddr ty x f, t, pos, af, g⟩ s K = effK K (evalOp c.P false s (.fieldAddr ty x f)) (clsOf s (.fieldAddr ty x f)) := eq_of_heq HEq.rfl
@[simp ↓] theorem stepK_field {ty : TypeId} {x : Operand} {f : Nat} : stepK c R all ⟨d, .field ty x f, t, pos, af, g⟩ s K = effK K (evalOp c.P false s (.field ty x f)) (clsOf s (.field ty x f)) := eq_of_heq HEq.rfl
@[simp ↓] theorem stepK_indexAddr {ty : TypeId} {x i : Operand} : stepK c R all ⟨d, .indexAddr ty x i, t, pos, af, g⟩ s K = effK K (evalOp c.P false s (.indexAddr ty x i)) (clsOf s (.indexAddr ty x i)) := eq_of_heq HEq.rfl
@[simp ↓] theorem stepK_index {ty : TypeId} {x i : Operand} : stepK c R all ⟨d, .index ty x i, t, pos, af, g⟩ s K = effK K (evalOp c.P false s (.index ty x i)) (clsOf s (.index ty x i)) := eq_of_heq HEq.rfl
@[simp ↓] theorem stepK_extract {x : Operand} {i : Nat} : stepK c R all ⟨d, .extract x i, t, pos, af, g⟩ s K = effK K (evalOp c.P false s (.extract x i)) (clsOf s (.extract x i)) := eq_of_heq HEq.rfl
@[simp ↓] theorem stepK_makeInterface {x : Operand} {ty : TypeId} : stepK c R all ⟨d, .makeInterface ty x, t, pos, af, g⟩ s K = effK K (evalOp c.P false s (.makeInterface ty x)) (clsOf s (.makeInterface ty x)) := eq_of_heq HEq.rfl
@[simp ↓] theorem stepK_makeMap {x : Option Operand} {ty : TypeId} : stepK c R all ⟨d, .makeMap ty x, t, pos, af, g⟩ s K = effK K (evalOp c.P false s (.makeMap ty x)) (clsOf s (.makeMap ty x)) := eq_of_heq HEq.rfl
@[simp ↓] theorem stepK_insert {x y z : Operand} {ty : TypeId} : stepK c R all ⟨d, .insert ty x y z, t, pos, af, g⟩ s K = effK K (evalOp c.P false s (.insert ty x y z)) (clsOf s (.insert ty x y z)) := eq_of_heq HEq.rfl
@[simp ↓] theorem stepK_len {as : Array Operand} {ts : Array TypeId} : stepK c R all ⟨d, .call ⟨.builtin .len, as, ts⟩, t, pos, af, g⟩ s K = effK K (evalOp c.P false s (.call ⟨.builtin .len, as, ts⟩)) (clsOf s (.call ⟨.builtin .len, as, ts⟩)) := eq_of_heq HEq.rfl
@[simp ↓] theorem stepK_max {as : Array Operand} {ts : Array TypeId} : stepK c R all ⟨d, .call ⟨.builtin .max, as, ts⟩, t, pos, af, g⟩ s K = effK K (evalOp c.P false s (.call ⟨.builtin .max, as, ts⟩)) (clsOf s (.call ⟨.builtin .max, as, ts⟩)) := eq_of_heq HEq.rfl
@[simp ↓] theorem stepK_min {as : Array Operand} {ts : Array TypeId} : stepK c R all ⟨d, .call ⟨.builtin .min, as, ts⟩, t, pos, af, g⟩ s K = effK K (evalOp c.P false s (.call ⟨.builtin .min, as, ts⟩)) (clsOf s (.call ⟨.builtin .min, as, ts⟩)) := eq_of_heq HEq.rfl
@[simp ↓] theorem stepK_append {as : Array Operand} {ts : Array TypeId} : stepK c R all ⟨d, .call ⟨.builtin .append, as, ts⟩, t, pos, af, g⟩ s K = effK K (evalOp c.P false s (.call ⟨.builtin .append, as, ts⟩)) (clsOf s (.call ⟨.builtin .append, as, ts⟩)) := eq_of_heq HEq.rfl
end
attribute [simp] evalOp book lookE putE argE St.get ofVal ofValN coldIn guardVal V.cells part splice loadV storeV fillV appendV rdSl lenV sliceV bound indexAddrV indexV binV intBin strBin unV convV
attribute [simp] typed settle settleL Mem.freeze Mem.freezeM keyTy mapOf mksL V.mks setAt frz V.isJunk V.one ones onesL tksL ptrsL V.tks V.ptrs V.norm normL V.plain plainL V.ren renL idx has nth dedup blkAt fuelOf tksB subMem backB backK backM putMany killAll reach
attribute [simp] resVals resL resV elemSize gcIds gcKs oneV keepE valsE renE frzEnv ownEnv ownNil ownBlk clsOf clsC effOf

section
variable {c : Cfg} {R : CallRel} {K : Cls → V → Mem → Prop} {J : V → Mem → Prop} {g : FuncId}
@[simp] theorem callK_fn {m : Mem} {fs cs as : List V} : callK c R K m (.fn (.func g) fs cs) as = (if c.ipB g = true then fs = [] ∧ cs = [] ∧ ipK c K g m as else call1 R K g (if c.lend g then (m, fs ++ as ++ cs) else settleL m (fs ++ as ++ cs)) (tksL (fs ++ as ++ cs))) := eq_of_heq HEq.rfl
theorem ipK_of {m : Mem} {k : Nat} {e : TypeId} {sz : Nat} {xs ys : List (List V)} (hk : m.toks[k]? = some (.live e sz xs)) (h : c.ip g e sz xs ys) (hK : K (effOf m [] [k]) (.tuple []) { m with toks := setAt m.toks k fun _ => .live e sz ys }) : ipK c K g m [.osl k] :=
  ⟨k, e, sz, xs, ys, rfl, hk, h, hK⟩
@[simp] theorem call1_pair {m : Mem} {as : List V} {tk : List Nat} : call1 R K g (m, as) tk = call2 R K g as m tk (reach m.blks (fuelOf m.blks (ptrsL as)) [] (ptrsL as)) := eq_of_heq HEq.rfl
@[simp] theorem call2_nil {m : Mem} {as : List V} {tk : List Nat} : call2 R K g as m tk [] = call3 R K g as m tk [] (dedup [] (tksL as ++ tksB (List.map (blkAt m.blks) []))) := eq_of_heq HEq.rfl
@[simp] theorem call2_cons {m : Mem} {as : List V} {tk : List Nat} {i : Nat} {ids : List Nat} : call2 R K g as m tk (i :: ids) = call3 R K g as m tk (i :: ids) (dedup [] (tksL as ++ tksB (List.map (blkAt m.blks) (i :: ids)))) := eq_of_heq HEq.rfl
@[simp] theorem call3_nil {m : Mem} {as : List V} {tk ids : List Nat} : call3 R K g as m tk ids [] =
    runK R (fun r m' => K (effOf m ids ([] ++ tk)) (r.ren (backB ids m.blks.length) (backK m.toks.length)) (backM m ids [] m')) g (renL (idx ids) (idx []) as) (subMem m ids []) := eq_of_heq HEq.rfl
@[simp] theorem call3_cons {m : Mem} {as : List V} {tk ids ks : List Nat} {k : Nat} : call3 R K g as m tk ids (k :: ks) =
    runK R (fun r m' => K (effOf m ids ((k :: ks) ++ tk)) (r.ren (backB ids m.blks.length) (backK m.toks.length)) (backM m ids (k :: ks) m')) g (renL (idx ids) (idx (k :: ks)) as) (subMem m ids (k :: ks)) := eq_of_heq HEq.rfl
theorem runK_of {a : List V} {m : Mem} {r : V} {m' : Mem} (h : R g a m r m') (hJ : J r m') : runK R J g a m := ⟨r, m', h, hJ⟩
end

@[simp] theorem fin_mk {P : Program} {rs : List ResultVar} {rts : List TypeId} {nb : Nat} {e : List (Nat × V)} {m : Mem} {x : Option (V × Mem)} : (fin P rs rts nb ⟨e, m⟩ = x) = (finR P rts nb m (resVals P ⟨e, m⟩ rs) = x) := eq_of_heq HEq.rfl
@[simp] theorem forget_mk {nb : Nat} {d : Keep} {e : List (Nat × V)} {m : Mem} : forget nb d ⟨e, m⟩ = forget2 nb d (ownEnv (frzEnv ⟨e, m⟩ d.frz) d.nils) := eq_of_heq HEq.rfl
@[simp] theorem forget2_mk {nb : Nat} {d : Keep} {e : List (Nat × V)} {m : Mem} : forget2 nb d ⟨e, m⟩ = forget3 nb (ownBlk m d.bnils) (keepE e d.env) := eq_of_heq HEq.rfl
@[simp] theorem forget3_mk {nb : Nat} {b : List (List V)} {t : List Tok} {mp : List (Bool × List (V × V))} {it : List (Nat × List Nat)} {env : List (Nat × V)} : forget3 nb ⟨b, t, mp, it⟩ env = forget4 ⟨b, t, mp, it⟩ env (gcIds nb ⟨b, t, mp, it⟩ (valsE env)) := eq_of_heq HEq.rfl
@[simp] theorem forget4_nil {m : Mem} {env : List (Nat × V)} : forget4 m env [] = forget5 m env [] (gcKs m [] (valsE env)) := eq_of_heq HEq.rfl
@[simp] theorem forget4_cons {m : Mem} {env : List (Nat × V)} {i : Nat} {ids : List Nat} : forget4 m env (i :: ids) = forget5 m env (i :: ids) (gcKs m (i :: ids) (valsE env)) := eq_of_heq HEq.rfl
@[simp] theorem forget5_nil {m : Mem} {env : List (Nat × V)} {ids : List Nat} : forget5 m env ids [] = ⟨renE (idx ids) (idx []) env, subMem m ids []⟩ := eq_of_heq HEq.rfl
@[simp] theorem forget5_cons {m : Mem} {env : List (Nat × V)} {ids ks : List Nat} {k : Nat} : forget5 m env ids (k :: ks) = ⟨renE (idx ids) (idx (k :: ks)) env, subMem m ids (k :: ks)⟩ := eq_of_heq HEq.rfl
@[simp] theorem finR_some {P : Program} {rts : List TypeId} {nb : Nat} {m : Mem} {vs : List V} : finR P rts nb m (some vs) = finR2 nb (resL P m rts vs) := eq_of_heq HEq.rfl
@[simp] theorem finR2_mk {nb : Nat} {vs : List V} {m : Mem} : finR2 nb (vs, m) = finR3 nb m (oneV vs) (gcIds nb m [oneV vs]) := eq_of_heq HEq.rfl
@[simp] theorem finR3_nil {nb : Nat} {m : Mem} {r : V} : finR3 nb m r [] = finR4 m r [] (gcKs m [] [r]) := eq_of_heq HEq.rfl
@[simp] theorem finR3_cons {nb : Nat} {m : Mem} {r : V} {i : Nat} {ids : List Nat} : finR3 nb m r (i :: ids) = finR4 m r (i :: ids) (gcKs m (i :: ids) [r]) := eq_of_heq HEq.rfl
@[simp] theorem finR4_nil {m : Mem} {r : V} {ids : List Nat} : finR4 m r ids [] = some (r.ren (idx ids) (idx []), subMem m ids []) := eq_of_heq HEq.rfl
@[simp] theorem finR4_cons {m : Mem} {r : V} {ids ks : List Nat} {k : Nat} : finR4 m r ids (k :: ks) = some (r.ren (idx ids) (idx (k :: ks)), subMem m ids (k :: ks)) := eq_of_heq HEq.rfl
/-- Behind a round: the loop's relation at a smaller number, some of the state being forgotten. -/
def loopK (nb : Nat) (I : Nat → St → Prop) (n : Nat) (Q : Ex → St → Prop) : Ex → St → Prop
  | .normal, s => ∃ d k, k < n ∧ I k (forget nb d s)
  | e, s => Q e s
section
variable {c : Cfg} {R : CallRel} {nb : Nat} {Q : Ex → St → Prop}
theorem loopK_back {I : Nat → St → Prop} {n : Nat} {s : St} (d : Keep) (k : Nat) (hk : k < n) (h : I k (forget nb d s)) : loopK nb I n Q .normal s := ⟨d, k, hk, h⟩
@[simp] theorem loopK_exit {I : Nat → St → Prop} {n : Nat} {s : St} {id : Nat} : loopK nb I n Q (.exit id) s = Q (.exit id) s := eq_of_heq HEq.rfl
@[simp] theorem loopK_ret {I : Nat → St → Prop} {n : Nat} {s : St} : loopK nb I n Q .ret s = Q .ret s := eq_of_heq HEq.rfl
/-- A loop, by a relation with a number that goes down. -/
theorem wp_loop {a : Code} {s : St} (I : Nat → St → Prop) (d : Keep) (n : Nat) (h0 : I n (forget nb d s)) (h : ∀ n s, I n s → wp c R nb a s (loopK nb I n Q)) : wp c R nb (.loop a) s Q := by
  refine ⟨_, .inr ⟨d, rfl⟩, loop_ind (fun s Q Q' hq => wp_mono (fun _ _ _ _ _ h => h) a s Q Q' hq) I (fun n s hs => ?_) n _ h0⟩
  refine wp_mono (fun _ _ _ _ _ h => h) a _ _ _ (fun e s' => ?_) (h n s hs)
  cases e with
  | normal => exact fun ⟨d, k, hk, hI⟩ => ⟨_, k, hk, .inr ⟨d, rfl⟩, hI⟩
  | exit id => exact fun h => h
  | ret => exact fun h => h
end
end Go.Vm
