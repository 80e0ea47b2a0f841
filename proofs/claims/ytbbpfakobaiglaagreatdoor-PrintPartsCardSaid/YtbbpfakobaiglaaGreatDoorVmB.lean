/- Each operation of the abstract machine is what the model's operation does. No condition. -/
import Derived.Test.YtbbpfakobaiglaaGreatDoorVmA
import Derived.Laws.AppendOwn
import Derived.Maps.AppendAt
import Derived.Laws.AppendOwnNone
import Derived.Laws.Build
import Derived.Laws.BytesString
set_option linter.unusedVariables false
set_option linter.unusedSimpArgs false
namespace Go.Vm
open Go

/-- Plain data: a value as it lies in memory for good ('C': the blocks that nobody writes to any more). -/
inductive DR (w : World) (C : Nat → Prop) : V → Value → Prop
  | int (k : IntKind) (n : Int) : DR w C (.int k n) (.int k n)
  | bool (b : Bool) : DR w C (.bool b) (.bool b)
  | str (s : ByteArray) : DR w C (.str s) (.string s)
  | nilsl : DR w C .nilsl (.slice none 0 0)
  | sl0 (A : Option Addr) (cap : Nat) : DR w C (.sl []) (.slice A 0 cap)
  | sl (xs : List (List V)) (g off cap sz : Nat) (arr : Array Value) (e : TypeId) (fr : Nat × Nat) (h1 : C g) (h2 : w.heap[g]? = some (.cells arr e fr)) (h3 : xs.length ≤ cap)
      (h4 : ∀ x ∈ xs, x.length = sz) (h5 : off + xs.length * sz ≤ arr.size)
      (h6 : ∀ i x j u, xs[i]? = some x → x[j]? = some u → DR w C u (arr.getD (off + i * sz + j) undef))
      (h7 : ∀ i, i < xs.length * sz → (arr.getD (off + i) undef).oneCell' = true) : DR w C (.sl xs) (.slice (some ⟨g, off, none⟩) xs.length cap)
  | nilp : DR w C .nilp (.pointer none)
  | nilfn : DR w C .nilfn .nilFunc
  | nili : DR w C .nili .nilIface
  | iptr (cs : List V) (g off : Nat) (arr : Array Value) (e : TypeId) (fr : Nat × Nat) (h1 : C g) (h2 : w.heap[g]? = some (.cells arr e fr)) (h5 : off + cs.length ≤ arr.size)
      (h6 : ∀ j u, cs[j]? = some u → DR w C u (arr.getD (off + j) undef)) : DR w C (.iptr cs) (.pointer (some ⟨g, off, none⟩))
  | fn (f : Fn) (fs cs : List V) (A B : Array Value) (hA : A.size = fs.length) (hB : B.size = cs.length) (h1 : ∀ i u, fs[i]? = some u → DR w C u (A.getD i undef)) (h2 : ∀ i u, cs[i]? = some u → DR w C u (B.getD i undef)) :
      DR w C (.fn f fs cs) (.func f A B)
  | agg (cs : List V) (A : Array Value) (hA : A.size = cs.length) (h1 : ∀ i u, cs[i]? = some u → DR w C u (A.getD i undef)) : DR w C (.agg cs) (.agg A)
  | tuple (cs : List V) (A : Array Value) (hA : A.size = cs.length) (h1 : ∀ i u, cs[i]? = some u → DR w C u (A.getD i undef)) : DR w C (.tuple cs) (.tuple A)
  | iface (t : TypeId) (v : V) (mv : Value) (h : DR w C v mv) : DR w C (.iface t v) (.iface t mv)
  | imap (es : List (V × V)) (r : Nat) (mes : Array MapEntry) (clock : Nat) (h1 : C r) (h2 : w.heap[r]? = some (.map mes clock)) (h3 : mes.size = es.length)
      (h4 : ∀ i p, es[i]? = some p → DR w C p.1 (mes.getD i default).key) (h5 : ∀ i p, es[i]? = some p → DR w C p.2 (mes.getD i default).val) : DR w C (.imap es) (.map (some r))

theorem DR.mono {w w' : World} {C C' : Nat → Prop} (hC : ∀ h, C h → C' h) (hw : ∀ h, C h → w'.heap[h]? = w.heap[h]?) {v : V} {mv : Value} (h : DR w C v mv) : DR w' C' v mv := by
  induction h with
  | int k n => exact .int k n
  | bool b => exact .bool b
  | str s => exact .str s
  | nilsl => exact .nilsl
  | sl0 A cap => exact .sl0 A cap
  | sl xs g off cap sz arr e fr h1 h2 h3 h4 h5 h6 h7 ih => exact .sl xs g off cap sz arr e fr (hC _ h1) ((hw _ h1).trans h2) h3 h4 h5 ih h7
  | nilp => exact .nilp
  | nilfn => exact .nilfn
  | nili => exact .nili
  | iptr cs g off arr e fr h1 h2 h5 h6 ih => exact .iptr cs g off arr e fr (hC _ h1) ((hw _ h1).trans h2) h5 ih
  | fn f fs cs A B hA hB h1 h2 ih1 ih2 => exact .fn f fs cs A B hA hB ih1 ih2
  | agg cs A hA h1 ih => exact .agg cs A hA ih
  | tuple cs A hA h1 ih => exact .tuple cs A hA ih
  | iface t v mv h ih => exact .iface t v mv ih
  | imap es r mes clock h1 h2 h3 h4 h5 ih4 ih5 => exact .imap es r mes clock (hC _ h1) ((hw _ h1).trans h2) h3 ih4 ih5

/-- Where the abstract blocks, arrays and maps lie. -/
structure Gh where
  m : Nat → Nat
  nb : Nat
  S : Nat → Value
  B : Nat → Nat
  Z : Nat → Nat
  nt : Nat
  M : Nat → Nat
  nm : Nat
  C : Nat → Prop

inductive VR (w : World) (g : Gh) : V → Value → Prop
  | data {v : V} {mv : Value} (h : DR w g.C v mv) : VR w g v mv
  | ptr (b off : Nat) (h : b < g.nb) : VR w g (.ptr b off) (.pointer (some ⟨g.m b, off, none⟩))
  | osl (k : Nat) (h : k < g.nt) (hs : ∃ A n c, g.S k = .slice A n c) : VR w g (.osl k) (g.S k)
  | eptr (k i off : Nat) (h : k < g.nt) : VR w g (.eptr k i off) (.pointer (some ⟨g.B k, i * g.Z k + off, none⟩))
  | omap (k : Nat) (h : k < g.nm) : VR w g (.omap k) (.map (some (g.M k)))
  | fn (f : Fn) (fs cs : List V) (A B : Array Value) (hA : A.size = fs.length) (hB : B.size = cs.length) (h1 : ∀ i u, fs[i]? = some u → VR w g u (A.getD i undef)) (h2 : ∀ i u, cs[i]? = some u → VR w g u (B.getD i undef)) :
      VR w g (.fn f fs cs) (.func f A B)
  | agg (cs : List V) (A : Array Value) (hA : A.size = cs.length) (h1 : ∀ i u, cs[i]? = some u → VR w g u (A.getD i undef)) : VR w g (.agg cs) (.agg A)
  | tuple (cs : List V) (A : Array Value) (hA : A.size = cs.length) (h1 : ∀ i u, cs[i]? = some u → VR w g u (A.getD i undef)) : VR w g (.tuple cs) (.tuple A)
  | iface (t : TypeId) (v : V) (mv : Value) (h : VR w g v mv) : VR w g (.iface t v) (.iface t mv)
  | junk (mv : Value) : VR w g .junk mv

structure Agree (g g' : Gh) : Prop where
  nb : g.nb ≤ g'.nb
  m : ∀ b, b < g.nb → g'.m b = g.m b
  nt : g.nt ≤ g'.nt
  t : ∀ k, k < g.nt → g'.S k = g.S k ∧ g'.B k = g.B k ∧ g'.Z k = g.Z k
  nm : g.nm ≤ g'.nm
  M : ∀ k, k < g.nm → g'.M k = g.M k
  C : ∀ h, g.C h → g'.C h
theorem Agree.refl (g : Gh) : Agree g g := ⟨Nat.le_refl _, fun _ _ => rfl, Nat.le_refl _, fun _ _ => ⟨rfl, rfl, rfl⟩, Nat.le_refl _, fun _ _ => rfl, fun _ h => h⟩
theorem Agree.trans {a b c : Gh} (h : Agree a b) (k : Agree b c) : Agree a c :=
  ⟨Nat.le_trans h.nb k.nb, fun b hb => (k.m b (Nat.lt_of_lt_of_le hb h.nb)).trans (h.m b hb), Nat.le_trans h.nt k.nt,
    fun i hi => by
      obtain ⟨a1, a2, a3⟩ := h.t i hi
      obtain ⟨b1, b2, b3⟩ := k.t i (Nat.lt_of_lt_of_le hi h.nt)
      exact ⟨b1.trans a1, b2.trans a2, b3.trans a3⟩,
    Nat.le_trans h.nm k.nm, fun i hi => (k.M i (Nat.lt_of_lt_of_le hi h.nm)).trans (h.M i hi), fun x hx => k.C x (h.C x hx)⟩

theorem VR.mono {w w' : World} {g g' : Gh} (ha : Agree g g') (hw : ∀ h, g.C h → w'.heap[h]? = w.heap[h]?) {v : V} {mv : Value} (h : VR w g v mv) : VR w' g' v mv := by
  induction h with
  | data h => exact .data (h.mono ha.C hw)
  | ptr b off h => rw [← ha.m b h]; exact .ptr b off (Nat.lt_of_lt_of_le h ha.nb)
  | osl k h hs => rw [← (ha.t k h).1]; exact .osl k (Nat.lt_of_lt_of_le h ha.nt) (by rw [(ha.t k h).1]; exact hs)
  | eptr k i off h => rw [← (ha.t k h).2.1, ← (ha.t k h).2.2]; exact .eptr k i off (Nat.lt_of_lt_of_le h ha.nt)
  | omap k h => rw [← ha.M k h]; exact .omap k (Nat.lt_of_lt_of_le h ha.nm)
  | fn f fs cs A B hA hB h1 h2 ih1 ih2 => exact .fn f fs cs A B hA hB ih1 ih2
  | agg cs A hA h1 ih => exact .agg cs A hA ih
  | tuple cs A hA h1 ih => exact .tuple cs A hA ih
  | iface t v mv h ih => exact .iface t v mv ih
  | junk mv => exact .junk mv

theorem plainL_iff {vs : List V} : plainL vs = true ↔ ∀ v ∈ vs, v.plain = true := by
  induction vs with
  | nil => simp [plainL]
  | cons v r ih => simp [plainL, ih]
theorem mem_of_get {α : Type} {l : List α} {i : Nat} {u : α} (h : l[i]? = some u) : u ∈ l := List.mem_of_getElem? h
/-- Of plain data the ghost's names are not asked. -/
theorem VR.plain {w : World} {g : Gh} {v : V} {mv : Value} (h : VR w g v mv) (hp : v.plain = true) : DR w g.C v mv := by
  induction h with
  | data h => exact h
  | ptr b off h => simp [V.plain] at hp
  | osl k h hs => simp [V.plain] at hp
  | eptr k i off h => simp [V.plain] at hp
  | omap k h => simp [V.plain] at hp
  | fn f fs cs A B hA hB h1 h2 ih1 ih2 =>
    simp only [V.plain, Bool.and_eq_true, plainL_iff] at hp
    exact .fn f fs cs A B hA hB (fun i u hu => ih1 i u hu (hp.1 u (mem_of_get hu))) (fun i u hu => ih2 i u hu (hp.2 u (mem_of_get hu)))
  | agg cs A hA h1 ih =>
    simp only [V.plain, plainL_iff] at hp
    exact .agg cs A hA fun i u hu => ih i u hu (hp u (mem_of_get hu))
  | tuple cs A hA h1 ih =>
    simp only [V.plain, plainL_iff] at hp
    exact .tuple cs A hA fun i u hu => ih i u hu (hp u (mem_of_get hu))
  | iface t v mv h ih =>
    simp only [V.plain] at hp
    exact .iface t v mv (ih hp)
  | junk mv => simp [V.plain] at hp

/-! Inversions -/
theorem VR.int_inv {w : World} {g : Gh} {k : IntKind} {n : Int} {mv : Value} (h : VR w g (.int k n) mv) : mv = .int k n := by
  cases h with
  | data h => cases h; rfl
theorem VR.bool_inv {w : World} {g : Gh} {b : Bool} {mv : Value} (h : VR w g (.bool b) mv) : mv = .bool b := by
  cases h with
  | data h => cases h; rfl
theorem VR.str_inv {w : World} {g : Gh} {s : ByteArray} {mv : Value} (h : VR w g (.str s) mv) : mv = .string s := by
  cases h with
  | data h => cases h; rfl
theorem VR.nilsl_inv {w : World} {g : Gh} {mv : Value} (h : VR w g .nilsl mv) : mv = .slice none 0 0 := by
  cases h with
  | data h => cases h; rfl
theorem VR.ptr_inv {w : World} {g : Gh} {b off : Nat} {mv : Value} (h : VR w g (.ptr b off) mv) : mv = .pointer (some ⟨g.m b, off, none⟩) ∧ b < g.nb := by
  cases h with
  | data h => cases h
  | ptr _ _ h => exact ⟨rfl, h⟩
theorem VR.osl_inv {w : World} {g : Gh} {k : Nat} {mv : Value} (h : VR w g (.osl k) mv) : mv = g.S k ∧ k < g.nt ∧ ∃ A n c, g.S k = .slice A n c := by
  cases h with
  | data h => cases h
  | osl _ h hs => exact ⟨rfl, h, hs⟩
theorem VR.eptr_inv {w : World} {g : Gh} {k i off : Nat} {mv : Value} (h : VR w g (.eptr k i off) mv) : mv = .pointer (some ⟨g.B k, i * g.Z k + off, none⟩) ∧ k < g.nt := by
  cases h with
  | data h => cases h
  | eptr _ _ _ h => exact ⟨rfl, h⟩
theorem VR.omap_inv {w : World} {g : Gh} {k : Nat} {mv : Value} (h : VR w g (.omap k) mv) : mv = .map (some (g.M k)) ∧ k < g.nm := by
  cases h with
  | data h => cases h
  | omap _ h => exact ⟨rfl, h⟩
theorem VR.sl_inv {w : World} {g : Gh} {xs : List (List V)} {mv : Value} (h : VR w g (.sl xs) mv) : DR w g.C (.sl xs) mv := by
  cases h with
  | data h => exact h
theorem VR.iptr_inv {w : World} {g : Gh} {cs : List V} {mv : Value} (h : VR w g (.iptr cs) mv) : DR w g.C (.iptr cs) mv := by
  cases h with
  | data h => exact h
theorem VR.imap_inv {w : World} {g : Gh} {es : List (V × V)} {mv : Value} (h : VR w g (.imap es) mv) : DR w g.C (.imap es) mv := by
  cases h with
  | data h => exact h
theorem VR.agg_inv {w : World} {g : Gh} {cs : List V} {mv : Value} (h : VR w g (.agg cs) mv) : ∃ A, mv = .agg A ∧ A.size = cs.length ∧ ∀ i u, cs[i]? = some u → VR w g u (A.getD i undef) := by
  cases h with
  | data h =>
    cases h with
    | agg _ A hA h1 => exact ⟨A, rfl, hA, fun i u hu => .data (h1 i u hu)⟩
  | agg _ A hA h1 => exact ⟨A, rfl, hA, h1⟩
theorem VR.tuple_inv {w : World} {g : Gh} {cs : List V} {mv : Value} (h : VR w g (.tuple cs) mv) : ∃ A, mv = .tuple A ∧ A.size = cs.length ∧ ∀ i u, cs[i]? = some u → VR w g u (A.getD i undef) := by
  cases h with
  | data h =>
    cases h with
    | tuple _ A hA h1 => exact ⟨A, rfl, hA, fun i u hu => .data (h1 i u hu)⟩
  | tuple _ A hA h1 => exact ⟨A, rfl, hA, h1⟩
theorem VR.iface_inv {w : World} {g : Gh} {t : TypeId} {v : V} {mv : Value} (h : VR w g (.iface t v) mv) : ∃ x, mv = .iface t x ∧ VR w g v x := by
  cases h with
  | data h =>
    cases h with
    | iface _ _ x h => exact ⟨x, rfl, .data h⟩
  | iface _ _ x h => exact ⟨x, rfl, h⟩
theorem VR.fn_inv {w : World} {g : Gh} {f : Fn} {fs cs : List V} {mv : Value} (h : VR w g (.fn f fs cs) mv) : ∃ A B, mv = .func f A B ∧ A.size = fs.length ∧ B.size = cs.length ∧
    (∀ i u, fs[i]? = some u → VR w g u (A.getD i undef)) ∧ ∀ i u, cs[i]? = some u → VR w g u (B.getD i undef) := by
  cases h with
  | data h =>
    cases h with
    | fn _ _ _ A B hA hB h1 h2 => exact ⟨A, B, rfl, hA, hB, fun i u hu => .data (h1 i u hu), fun i u hu => .data (h2 i u hu)⟩
  | fn _ _ _ A B hA hB h1 h2 => exact ⟨A, B, rfl, hA, hB, h1, h2⟩

/-! Memory -/
def BOk (w : World) (g : Gh) (b : Nat) (cs : List V) : Prop :=
  ∃ arr e, w.heap[g.m b]? = some (.cells arr e (0, 0)) ∧ arr.size = cs.length ∧ ∀ i v, cs[i]? = some v → VR w g v (arr.getD i undef)
def TOk (w : World) (g : Gh) (k : Nat) : Tok → Prop
  | .live e sz xs => 0 < sz ∧ g.Z k = sz ∧ (∀ x ∈ xs, x.length = sz) ∧
      ((g.S k = .slice none 0 0 ∧ xs = []) ∨
       ∃ cap arr, g.S k = .slice (some ⟨g.B k, 0, none⟩) xs.length cap ∧ w.heap[g.B k]? = some (.cells arr e (0, 0)) ∧ xs.length ≤ cap ∧ cap ≤ maxLen ∧ arr.size = cap * sz ∧
        (∀ i x j u, xs[i]? = some x → x[j]? = some u → DR w g.C u (arr.getD (i * sz + j) undef)) ∧ ∀ i, i < xs.length * sz → (arr.getD i undef).oneCell' = true)
  | .froz xs => DR w g.C (.sl xs) (g.S k)
  | .dead => True
def MpOk (w : World) (g : Gh) (k : Nat) : Bool × List (V × V) → Prop
  | (true, es) => ∃ mes clock, w.heap[g.M k]? = some (.map mes clock) ∧ mes.size = es.length ∧
    (∀ i p, es[i]? = some p → DR w g.C p.1 (mes.getD i default).key) ∧ ∀ i p, es[i]? = some p → DR w g.C p.2 (mes.getD i default).val
  | (false, es) => DR w g.C (.imap es) (.map (some (g.M k)))
inductive Loc where
  | blk (b : Nat) | tok (k : Nat) | mp (k : Nat)
def Gh.at (g : Gh) : Loc → Nat
  | .blk b => g.m b
  | .tok k => g.B k
  | .mp k => g.M k
def Held (mem : Mem) (g : Gh) : Loc → Prop
  | .blk b => b < mem.blks.length
  | .tok k => g.S k ≠ .slice none 0 0 ∧ ∃ e sz xs, mem.toks[k]? = some (.live e sz xs)
  | .mp k => ∃ es, mem.maps[k]? = some (true, es)
/-- Nothing of what is held lies here. -/
def Off (mem : Mem) (g : Gh) (h : Nat) : Prop := ∀ l, Held mem g l → g.at l ≠ h
structure MemOk (w : World) (g : Gh) (mem : Mem) : Prop where
  nb : g.nb = mem.blks.length
  nt : g.nt = mem.toks.length
  nm : g.nm = mem.maps.length
  blk : ∀ b cs, mem.blks[b]? = some cs → BOk w g b cs
  tok : ∀ k t, mem.toks[k]? = some t → TOk w g k t
  map : ∀ k es, mem.maps[k]? = some es → MpOk w g k es
  sep : ∀ l l', Held mem g l → Held mem g l' → g.at l = g.at l' → l = l'
  com : ∀ h, g.C h → h < w.heap.size ∧ Off mem g h

/-- From one state to a later one of the same call. -/
structure Nx (w : World) (g : Gh) (mem : Mem) (w' : World) (g' : Gh) (mem' : Mem) : Prop where
  agree : Agree g g'
  os : w'.os = w.os
  tape : w'.tape = w.tape
  output : w'.output = w.output
  size : w.heap.size ≤ w'.heap.size
  keep : ∀ h, h < w.heap.size → Off mem g h → w'.heap[h]? = w.heap[h]?
  new : ∀ h, h < w.heap.size → Off mem g h → g'.C h → g.C h
  off : ∀ h, h < w.heap.size → Off mem g h → Off mem' g' h
theorem Nx.refl (w : World) (g : Gh) (mem : Mem) : Nx w g mem w g mem := ⟨.refl g, rfl, rfl, rfl, Nat.le_refl _, fun _ _ _ => rfl, fun _ _ _ h => h, fun _ _ h => h⟩
theorem Nx.trans {w g mem w1 g1 mem1 w2 g2 mem2} (h : Nx w g mem w1 g1 mem1) (k : Nx w1 g1 mem1 w2 g2 mem2) : Nx w g mem w2 g2 mem2 :=
  ⟨h.agree.trans k.agree, k.os.trans h.os, k.tape.trans h.tape, k.output.trans h.output, Nat.le_trans h.size k.size,
    fun x hx ho => (k.keep x (Nat.lt_of_lt_of_le hx h.size) (h.off x hx ho)).trans (h.keep x hx ho),
    fun x hx ho hc => h.new x hx ho (k.new x (Nat.lt_of_lt_of_le hx h.size) (h.off x hx ho) hc),
    fun x hx ho => k.off x (Nat.lt_of_lt_of_le hx h.size) (h.off x hx ho)⟩
/-- What is committed stays as it is. -/
theorem Nx.com {w g mem w1 g1 mem1} (h : Nx w g mem w1 g1 mem1) (hm : MemOk w g mem) : ∀ x, g.C x → w1.heap[x]? = w.heap[x]? :=
  fun x hx => h.keep x (hm.com x hx).1 (hm.com x hx).2
theorem Nx.vr {w g mem w1 g1 mem1} (h : Nx w g mem w1 g1 mem1) (hm : MemOk w g mem) {v : V} {mv : Value} (hv : VR w g v mv) : VR w1 g1 v mv := hv.mono h.agree (h.com hm)
theorem Nx.dr {w g mem w1 g1 mem1} (h : Nx w g mem w1 g1 mem1) (hm : MemOk w g mem) {v : V} {mv : Value} (hv : DR w g.C v mv) : DR w1 g1.C v mv := hv.mono h.agree.C (h.com hm)

/-- What a call of the abstract machine says of the model's call. -/
structure CallNx (w : World) (g : Gh) (mem : Mem) (w' : World) (g' : Gh) (mem' : Mem) : Prop where
  m : ∀ b, b < mem.blks.length → b < mem'.blks.length ∧ g'.m b = g.m b
  C : ∀ h, g.C h → g'.C h
  os : w'.os = w.os
  tape : w'.tape = w.tape
  output : w'.output = w.output
  size : w.heap.size ≤ w'.heap.size
  keep : ∀ h, h < w.heap.size → Off mem g h → w'.heap[h]? = w.heap[h]?
  new : ∀ h, h < w.heap.size → Off mem g h → g'.C h → g.C h
  off : ∀ h, h < w.heap.size → Off mem g h → Off mem' g' h
def VRL (w : World) (g : Gh) (vs : List V) (A : Array Value) : Prop := A.size = vs.length ∧ ∀ i u, vs[i]? = some u → VR w g u (A.getD i undef)
/-- What is known stays known. -/
def Stable (J : World → (Nat → Prop) → Prop) : Prop := ∀ w w' C C', (∀ h, C h → C' h) → (∀ h, C h → w'.heap[h]? = w.heap[h]?) → J w C → J w' C'
/-- A call of this function enters a body. -/
def Enters (P : Program) (f : FuncId) : Prop := ∃ fn, P.funcs[f]? = some fn ∧ fn.body.isNone = false ∧ (fn.name == "runtime.NumGoroutine") = false
/-- What is asked of a function that turns a row in its place. -/
def SndIp (P : Program) (f : FuncId) (e : TypeId) (sz : Nat) (xs ys : List (List V)) : Prop :=
  Enters P f ∧ ys.length = xs.length ∧ (∀ y ∈ ys, y.length = sz) ∧
  (xs = [] → ∀ w, Calls P f #[.slice none 0 0] w fun ex w' => ex = .returned (.tuple #[]) ∧ w' = w) ∧
  ∀ (w : World) (C : Nat → Prop) (b cap : Nat) (arr : Array Value), w.heap[b]? = some (.cells arr e (0, 0)) → xs.length ≤ cap → arr.size = cap * sz →
    (∀ i x j u, xs[i]? = some x → x[j]? = some u → DR w C u (arr.getD (i * sz + j) undef)) →
    Calls P f #[.slice (some ⟨b, 0, none⟩) xs.length cap] w fun ex w' => ex = .returned (.tuple #[]) ∧ ∃ arr', arr'.size = arr.size ∧
      (∀ i x j u, ys[i]? = some x → x[j]? = some u → DR w C u (arr'.getD (i * sz + j) undef)) ∧ (∀ i, i < xs.length * sz → (arr'.getD i undef).oneCell' = true) ∧
      w'.os = w.os ∧ w'.tape = w.tape ∧ w'.output = w.output ∧ w.heap.size ≤ w'.heap.size ∧ ∀ h, h < w.heap.size → w'.heap[h]? = (w.setRow b arr').heap[h]?
def Snd (P : Program) (J : World → (Nat → Prop) → Prop) (f : FuncId) (args : List V) (m : Mem) (r : V) (m' : Mem) : Prop :=
  Enters P f ∧ ∀ (w : World) (g : Gh) (A : Array Value), J w g.C → VRL w g args A → MemOk w g m →
    Calls P f A w fun e w' => ∃ mv g', e = .returned mv ∧ VR w' g' r mv ∧ MemOk w' g' m' ∧ CallNx w g m w' g' m'
end Go.Vm

namespace Go.Vm
open Go

theorem lt_of_heap {w : World} {h : Nat} {o : Obj} (e : w.heap[h]? = some o) : h < w.heap.size := by
  rcases Nat.lt_or_ge h w.heap.size with h' | h'
  · exact h'
  · simp [Array.getElem?_eq_none h'] at e
theorem MemOk.at_lt {w g mem} (hm : MemOk w g mem) {l : Loc} (hl : Held mem g l) : g.at l < w.heap.size := by
  cases l with
  | blk b =>
    obtain ⟨arr, e, h, _⟩ := hm.blk b _ (List.getElem?_eq_getElem hl)
    exact lt_of_heap h
  | tok k =>
    obtain ⟨hn, e, sz, xs, hk⟩ := hl
    have := hm.tok k _ hk
    simp only [TOk] at this
    rcases this.2.2.2 with ⟨h, _⟩ | ⟨cap, arr, h, h2, _⟩
    · exact absurd h hn
    · exact lt_of_heap h2
  | mp k =>
    obtain ⟨es, hl⟩ := hl
    obtain ⟨mes, clock, h, _⟩ := hm.map k _ hl
    exact lt_of_heap h

theorem BOk.keep {w w' : World} {g g' : Gh} {b : Nat} {cs : List V} (h : BOk w g b cs) (hb : b < g.nb) (ha : Agree g g') (hc : ∀ h, g.C h → w'.heap[h]? = w.heap[h]?) (hw : w'.heap[g.m b]? = w.heap[g.m b]?) : BOk w' g' b cs := by
  obtain ⟨arr, e, h1, h2, h3⟩ := h
  exact ⟨arr, e, by rw [ha.m b hb, hw]; exact h1, h2, fun i v hv => (h3 i v hv).mono ha hc⟩
theorem TOk.keep {w w' : World} {g g' : Gh} {k : Nat} {t : Tok} (h : TOk w g k t) (hk : k < g.nt) (ha : Agree g g') (hc : ∀ h, g.C h → w'.heap[h]? = w.heap[h]?)
    (hw : (∃ e sz xs, t = .live e sz xs) → g.S k ≠ .slice none 0 0 → w'.heap[g.B k]? = w.heap[g.B k]?) : TOk w' g' k t := by
  obtain ⟨hS, hB, hZ⟩ := ha.t k hk
  cases t with
  | live e sz xs =>
    obtain ⟨h1, h2, h3, h4⟩ := h
    refine ⟨h1, by rw [hZ]; exact h2, h3, ?_⟩
    rcases h4 with ⟨h4, h5⟩ | ⟨cap, arr, h4, h5, h6, h7, h8, h9, h10⟩
    · exact .inl ⟨by rw [hS]; exact h4, h5⟩
    · refine .inr ⟨cap, arr, by rw [hS, hB]; exact h4, ?_, h6, h7, h8, fun i x j u hx hu => (h9 i x j u hx hu).mono ha.C hc, h10⟩
      rw [hB, hw ⟨_, _, _, rfl⟩ (by rw [h4]; simp)]
      exact h5
  | froz xs =>
    show DR w' g'.C (.sl xs) (g'.S k)
    rw [hS]
    exact DR.mono ha.C hc h
  | dead => trivial
theorem MpOk.keep {w w' : World} {g g' : Gh} {k : Nat} {p : Bool × List (V × V)} (h : MpOk w g k p) (hk : k < g.nm) (ha : Agree g g') (hc : ∀ h, g.C h → w'.heap[h]? = w.heap[h]?)
    (hw : p.1 = true → w'.heap[g.M k]? = w.heap[g.M k]?) : MpOk w' g' k p := by
  obtain ⟨b, es⟩ := p
  cases b with
  | true =>
    obtain ⟨mes, clock, h1, h2, h3, h4⟩ := h
    exact ⟨mes, clock, by rw [ha.M k hk, hw rfl]; exact h1, h2, fun i p hp => (h3 i p hp).mono ha.C hc, fun i p hp => (h4 i p hp).mono ha.C hc⟩
  | false =>
    show DR w' g'.C (.imap es) (.map (some (g'.M k)))
    rw [ha.M k hk]
    exact DR.mono ha.C hc h

/-- The state at hand, beside the one that the account began at. -/
structure Cur (w : World) (g : Gh) (mem : Mem) (w1 : World) (g1 : Gh) (mem1 : Mem) : Prop where
  ok : MemOk w1 g1 mem1
  nx : Nx w g mem w1 g1 mem1
theorem Cur.start {w g mem} (h : MemOk w g mem) : Cur w g mem w g mem := ⟨h, .refl _ _ _⟩
theorem Cur.vr {w g mem w1 g1 mem1} (h : Cur w g mem w1 g1 mem1) (hm : MemOk w g mem) {v : V} {mv : Value} (hv : VR w g v mv) : VR w1 g1 v mv := h.nx.vr hm hv

theorem lt_blk {mem : Mem} {b : Nat} {cs : List V} (h : mem.blks[b]? = some cs) : b < mem.blks.length := (List.getElem?_eq_some_iff.1 h).1
theorem lt_tok {mem : Mem} {k : Nat} {t : Tok} (h : mem.toks[k]? = some t) : k < mem.toks.length := (List.getElem?_eq_some_iff.1 h).1
theorem lt_map {mem : Mem} {k : Nat} {es : Bool × List (V × V)} (h : mem.maps[k]? = some es) : k < mem.maps.length := (List.getElem?_eq_some_iff.1 h).1

/-- The world turns where nothing of ours lies; new blocks may be committed. -/
theorem Cur.world {w g mem w1 g1 mem1} (c : Cur w g mem w1 g1 mem1) (w2 : World) (C' : Nat → Prop) (hos : w2.os = w1.os) (htape : w2.tape = w1.tape) (hout : w2.output = w1.output) (hsz : w1.heap.size ≤ w2.heap.size)
    (hk : ∀ h, h < w1.heap.size → w2.heap[h]? = w1.heap[h]? ∨ (Off mem1 g1 h ∧ ¬ g1.C h ∧ (h < w.heap.size → ¬ Off mem g h)))
    (hC : ∀ h, g1.C h → C' h) (hC' : ∀ h, C' h → g1.C h ∨ (h < w2.heap.size ∧ Off mem1 g1 h ∧ (h < w.heap.size → ¬ Off mem g h))) : Cur w g mem w2 { g1 with C := C' } mem1 := by
  have ha : Agree g1 { g1 with C := C' } := ⟨Nat.le_refl _, fun _ _ => rfl, Nat.le_refl _, fun _ _ => ⟨rfl, rfl, rfl⟩, Nat.le_refl _, fun _ _ => rfl, hC⟩
  have hheld : ∀ l, Held mem1 g1 l → w2.heap[g1.at l]? = w1.heap[g1.at l]? := fun l hl => by
    rcases hk _ (c.ok.at_lt hl) with h | ⟨h, _⟩
    · exact h
    · exact absurd rfl (h l hl)
  have hcom : ∀ h, g1.C h → w2.heap[h]? = w1.heap[h]? := fun h hh => by
    rcases hk _ (c.ok.com h hh).1 with h | ⟨_, h, _⟩
    · exact h
    · exact absurd hh h
  have hheldS : ∀ l, Held mem1 { g1 with C := C' } l ↔ Held mem1 g1 l := fun l => by cases l <;> exact Iff.rfl
  have hatS : ∀ l, Gh.at { g1 with C := C' } l = g1.at l := fun l => by cases l <;> rfl
  have hoffS : ∀ h, Off mem1 { g1 with C := C' } h ↔ Off mem1 g1 h := fun h => by
    unfold Off
    simp only [hheldS, hatS]
  refine ⟨⟨c.ok.nb, c.ok.nt, c.ok.nm, fun b cs hb => ?_, fun k t hk' => ?_, fun k es hk' => ?_, fun l l' hl hl' he => ?_, fun h hh => ?_⟩, ?_⟩
  · exact (c.ok.blk b cs hb).keep (c.ok.nb ▸ lt_blk hb) ha hcom (hheld (.blk b) (lt_blk hb))
  · refine (c.ok.tok k t hk').keep (c.ok.nt ▸ lt_tok hk') ha hcom ?_
    rintro ⟨e, sz, xs, rfl⟩ hn
    exact hheld (.tok k) ⟨hn, _, _, _, hk'⟩
  · refine (c.ok.map k es hk').keep (c.ok.nm ▸ lt_map hk') ha hcom fun he => hheld (.mp k) ?_
    obtain ⟨b, es⟩ := es
    obtain rfl : b = true := he
    exact ⟨es, hk'⟩
  · rw [hatS, hatS] at he
    exact c.ok.sep l l' ((hheldS l).1 hl) ((hheldS l').1 hl') he
  · rw [hoffS]
    rcases hC' h hh with h1 | ⟨h1, h2, _⟩
    · exact ⟨Nat.lt_of_lt_of_le (c.ok.com h h1).1 hsz, (c.ok.com h h1).2⟩
    · exact ⟨h1, h2⟩
  · refine ⟨c.nx.agree.trans ha, hos.trans c.nx.os, htape.trans c.nx.tape, hout.trans c.nx.output, Nat.le_trans c.nx.size hsz, fun h hh ho => ?_, fun h hh ho hc => ?_, fun h hh ho => (hoffS h).2 (c.nx.off h hh ho)⟩
    · rcases hk h (Nat.lt_of_lt_of_le hh c.nx.size) with h1 | ⟨_, _, h1⟩
      · exact h1.trans (c.nx.keep h hh ho)
      · exact absurd ho (h1 hh)
    · rcases hC' h hc with h1 | ⟨_, _, h1⟩
      · exact c.nx.new h hh ho h1
      · exact absurd ho (h1 hh)
/-- A draw, a new object of nobody's. -/
theorem Cur.draw {w g mem w1 g1 mem1} (c : Cur w g mem w1 g1 mem1) (w2 : World) (hos : w2.os = w1.os) (htape : w2.tape = w1.tape) (hout : w2.output = w1.output) (hsz : w1.heap.size ≤ w2.heap.size)
    (hk : ∀ h, h < w1.heap.size → w2.heap[h]? = w1.heap[h]?) : Cur w g mem w2 g1 mem1 :=
  c.world w2 g1.C hos htape hout hsz (fun h hh => .inl (hk h hh)) (fun _ h => h) (fun _ h => .inl h)

def Gh.addB (g : Gh) (h : Nat) : Gh := { g with m := fun b => if b = g.nb then h else g.m b, nb := g.nb + 1 }
theorem Agree.addB (g : Gh) (h : Nat) : Agree g (g.addB h) :=
  ⟨Nat.le_succ _, fun b hb => by simp only [Gh.addB]; rw [if_neg (by omega)], Nat.le_refl _, fun _ _ => ⟨rfl, rfl, rfl⟩, Nat.le_refl _, fun _ _ => rfl, fun _ h => h⟩
/-- A place that is new to the account: it lay beyond, or was held when the account began. -/
def New (w : World) (g : Gh) (mem : Mem) (h : Nat) : Prop := h < w.heap.size → ¬ Off mem g h
theorem New.of_ge {w g mem h} (hh : w.heap.size ≤ h) : New w g mem h := fun h' => by omega

theorem Cur.addBlk {w g mem w1 g1 mem1} (c : Cur w g mem w1 g1 mem1) (h0 : Nat) (cs : List V) (arr : Array Value) (e : TypeId) (hn : New w g mem h0) (hC : ¬ g1.C h0) (ho : Off mem1 g1 h0)
    (hh : w1.heap[h0]? = some (.cells arr e (0, 0))) (hs : arr.size = cs.length) (hv : ∀ i v, cs[i]? = some v → VR w1 g1 v (arr.getD i undef)) :
    Cur w g mem w1 (g1.addB h0) { mem1 with blks := mem1.blks ++ [cs] } := by
  have ha := Agree.addB g1 h0
  have hold : ∀ b, b < mem1.blks.length → (g1.addB h0).m b = g1.m b := fun b hb => ha.m b (c.ok.nb ▸ hb)
  have hnew : (g1.addB h0).m mem1.blks.length = h0 := by simp [Gh.addB, c.ok.nb]
  have key : ∀ l, Held { mem1 with blks := mem1.blks ++ [cs] } (g1.addB h0) l → (Held mem1 g1 l ∧ (g1.addB h0).at l = g1.at l) ∨ (l = .blk mem1.blks.length ∧ (g1.addB h0).at l = h0) := fun l hl => by
    cases l with
    | blk b =>
      simp only [Held, List.length_append, List.length_cons, List.length_nil] at hl
      by_cases hb : b < mem1.blks.length
      · exact .inl ⟨hb, hold b hb⟩
      · obtain rfl : b = mem1.blks.length := by omega
        exact .inr ⟨rfl, hnew⟩
    | tok k => exact .inl ⟨hl, rfl⟩
    | mp k => exact .inl ⟨hl, rfl⟩
  refine ⟨⟨by simp [Gh.addB, c.ok.nb], c.ok.nt, c.ok.nm, fun b cs' hb => ?_, fun k t hk => ?_, fun k es hk => ?_, fun l l' hl hl' he => ?_, fun h hh' => ⟨(c.ok.com h hh').1, fun l hl => ?_⟩⟩, ?_⟩
  · by_cases hlt : b < mem1.blks.length
    · have : mem1.blks[b]? = some cs' := by simpa [List.getElem?_append_left hlt] using hb
      exact (c.ok.blk b cs' this).keep (c.ok.nb ▸ hlt) ha (fun _ _ => rfl) rfl
    · have hbl : b < (mem1.blks ++ [cs]).length := (List.getElem?_eq_some_iff.1 hb).1
      obtain rfl : b = mem1.blks.length := by simp at hbl; omega
      have : cs = cs' := by simpa using hb
      subst this
      exact ⟨arr, e, by rw [hnew]; exact hh, hs, fun i v hi => (hv i v hi).mono ha (fun _ _ => rfl)⟩
  · exact (c.ok.tok k t hk).keep (c.ok.nt ▸ lt_tok hk) ha (fun _ _ => rfl) (fun _ _ => rfl)
  · exact (c.ok.map k es hk).keep (c.ok.nm ▸ lt_map hk) ha (fun _ _ => rfl) (fun _ => rfl)
  · rcases key l hl with ⟨h1, h2⟩ | ⟨h1, h2⟩ <;> rcases key l' hl' with ⟨h3, h4⟩ | ⟨h3, h4⟩
    · rw [h2, h4] at he
      exact c.ok.sep l l' h1 h3 he
    · rw [h2, h4] at he
      exact absurd he (ho l h1)
    · rw [h2, h4] at he
      exact absurd he.symm (ho l' h3)
    · rw [h1, h3]
  · rcases key l hl with ⟨h1, h2⟩ | ⟨h1, h2⟩
    · rw [h2]
      exact (c.ok.com h hh').2 l h1
    · rw [h2]
      rintro rfl
      exact hC hh'
  · refine ⟨c.nx.agree.trans ha, c.nx.os, c.nx.tape, c.nx.output, c.nx.size, c.nx.keep, c.nx.new, fun h hh' hof l hl => ?_⟩
    rcases key l hl with ⟨h1, h2⟩ | ⟨h1, h2⟩
    · rw [h2]
      exact c.nx.off h hh' hof l h1
    · rw [h2]
      rintro rfl
      exact hn hh' hof

def Gh.addT (g : Gh) (S : Value) (B Z : Nat) : Gh :=
  { g with S := fun k => if k = g.nt then S else g.S k, B := fun k => if k = g.nt then B else g.B k, Z := fun k => if k = g.nt then Z else g.Z k, nt := g.nt + 1 }
theorem Agree.addT (g : Gh) (S : Value) (B Z : Nat) : Agree g (g.addT S B Z) :=
  ⟨Nat.le_refl _, fun _ _ => rfl, Nat.le_succ _, fun k hk => by simp only [Gh.addT]; rw [if_neg (by omega), if_neg (by omega), if_neg (by omega)]; exact ⟨rfl, rfl, rfl⟩, Nat.le_refl _, fun _ _ => rfl, fun _ h => h⟩
theorem Cur.addTok {w g mem w1 g1 mem1} (c : Cur w g mem w1 g1 mem1) (S : Value) (B Z : Nat) (t : Tok) (ht : TOk w1 (g1.addT S B Z) g1.nt t)
    (hfr : S ≠ .slice none 0 0 → (∃ e sz xs, t = .live e sz xs) → New w g mem B ∧ ¬ g1.C B ∧ Off mem1 g1 B) :
    Cur w g mem w1 (g1.addT S B Z) { mem1 with toks := mem1.toks ++ [t] } := by
  have ha := Agree.addT g1 S B Z
  have hnS : (g1.addT S B Z).S g1.nt = S := by simp [Gh.addT]
  have hnB : (g1.addT S B Z).B g1.nt = B := by simp [Gh.addT]
  have key : ∀ l, Held { mem1 with toks := mem1.toks ++ [t] } (g1.addT S B Z) l → (Held mem1 g1 l ∧ (g1.addT S B Z).at l = g1.at l) ∨ (l = .tok g1.nt ∧ (g1.addT S B Z).at l = B ∧ S ≠ .slice none 0 0 ∧ ∃ e sz xs, t = .live e sz xs) := fun l hl => by
    cases l with
    | blk b => exact .inl ⟨hl, rfl⟩
    | tok k =>
      obtain ⟨hn, e, sz, xs, hk⟩ := hl
      by_cases hlt : k < mem1.toks.length
      · have hk' : mem1.toks[k]? = some (.live e sz xs) := by simpa [List.getElem?_append_left hlt] using hk
        have := ha.t k (c.ok.nt ▸ hlt)
        exact .inl ⟨⟨by rw [← this.1]; exact hn, e, sz, xs, hk'⟩, this.2.1⟩
      · have hkl : k < (mem1.toks ++ [t]).length := (List.getElem?_eq_some_iff.1 hk).1
        obtain rfl : k = mem1.toks.length := by simp at hkl; omega
        have : t = .live e sz xs := by simpa using hk
        refine .inr ⟨by rw [c.ok.nt], by rw [← c.ok.nt]; exact hnB, ?_, e, sz, xs, this⟩
        rw [← c.ok.nt, hnS] at hn
        exact hn
    | mp k => exact .inl ⟨hl, rfl⟩
  refine ⟨⟨c.ok.nb, by simp [Gh.addT, c.ok.nt], c.ok.nm, fun b cs hb => ?_, fun k t' hk => ?_, fun k es hk => ?_, fun l l' hl hl' he => ?_, fun h hh' => ⟨(c.ok.com h hh').1, fun l hl => ?_⟩⟩, ?_⟩
  · exact (c.ok.blk b cs hb).keep (c.ok.nb ▸ lt_blk hb) ha (fun _ _ => rfl) rfl
  · by_cases hlt : k < mem1.toks.length
    · have hk' : mem1.toks[k]? = some t' := by simpa [List.getElem?_append_left hlt] using hk
      exact (c.ok.tok k t' hk').keep (c.ok.nt ▸ hlt) ha (fun _ _ => rfl) (fun _ _ => rfl)
    · have hkl : k < (mem1.toks ++ [t]).length := (List.getElem?_eq_some_iff.1 hk).1
      obtain rfl : k = mem1.toks.length := by simp at hkl; omega
      have : t = t' := by simpa using hk
      subst this
      rw [← c.ok.nt]
      exact ht
  · exact (c.ok.map k es hk).keep (c.ok.nm ▸ lt_map hk) ha (fun _ _ => rfl) (fun _ => rfl)
  · rcases key l hl with ⟨h1, h2⟩ | ⟨h1, h2, h2a, h2b⟩ <;> rcases key l' hl' with ⟨h3, h4⟩ | ⟨h3, h4, h4a, h4b⟩
    · rw [h2, h4] at he
      exact c.ok.sep l l' h1 h3 he
    · rw [h2, h4] at he
      exact absurd he ((hfr h4a h4b).2.2 l h1)
    · rw [h2, h4] at he
      exact absurd he.symm ((hfr h2a h2b).2.2 l' h3)
    · rw [h1, h3]
  · rcases key l hl with ⟨h1, h2⟩ | ⟨h1, h2, h2a, h2b⟩
    · rw [h2]
      exact (c.ok.com h hh').2 l h1
    · rw [h2]
      rintro rfl
      exact (hfr h2a h2b).2.1 hh'
  · refine ⟨c.nx.agree.trans ha, c.nx.os, c.nx.tape, c.nx.output, c.nx.size, c.nx.keep, c.nx.new, fun h hh' hof l hl => ?_⟩
    rcases key l hl with ⟨h1, h2⟩ | ⟨h1, h2, h2a, h2b⟩
    · rw [h2]
      exact c.nx.off h hh' hof l h1
    · rw [h2]
      rintro rfl
      exact (hfr h2a h2b).1 hh' hof

theorem getElem?_setAt {α : Type} (f : α → α) : ∀ (l : List α) (i j : Nat), (setAt l i f)[j]? = if j = i then (l[j]?).map f else l[j]?
  | [], i, j => by simp [setAt]
  | x :: r, 0, j => by cases j <;> simp [setAt]
  | x :: r, i + 1, j => by
    cases j with
    | zero => simp [setAt]
    | succ j => simp [setAt, getElem?_setAt f r i j]
@[simp] theorem length_setAt {α : Type} (f : α → α) : ∀ (l : List α) (i : Nat), (setAt l i f).length = l.length
  | [], i => by simp [setAt]
  | x :: r, 0 => by simp [setAt]
  | x :: r, i + 1 => by simp [setAt, length_setAt f r i]

/-- An array dies. -/
theorem Cur.kill {w g mem w1 g1 mem1} (c : Cur w g mem w1 g1 mem1) (k : Nat) : Cur w g mem w1 g1 { mem1 with toks := setAt mem1.toks k fun _ => .dead } := by
  have key : ∀ l, Held { mem1 with toks := setAt mem1.toks k fun _ => .dead } g1 l → Held mem1 g1 l := fun l hl => by
    cases l with
    | blk b => exact hl
    | tok j =>
      obtain ⟨hn, e, sz, xs, hk⟩ := hl
      rw [getElem?_setAt] at hk
      split at hk
      · simp at hk
      · exact ⟨hn, e, sz, xs, hk⟩
    | mp k => exact hl
  refine ⟨⟨c.ok.nb, by simp [c.ok.nt], c.ok.nm, c.ok.blk, fun j t hj => ?_, c.ok.map, fun l l' hl hl' he => c.ok.sep l l' (key l hl) (key l' hl') he, fun h hh => ⟨(c.ok.com h hh).1, fun l hl => (c.ok.com h hh).2 l (key l hl)⟩⟩, ?_⟩
  · simp only [getElem?_setAt] at hj
    split at hj
    · simp only [Option.map_eq_some_iff] at hj
      obtain ⟨_, _, rfl⟩ := hj
      trivial
    · exact c.ok.tok j t hj
  · exact ⟨c.nx.agree, c.nx.os, c.nx.tape, c.nx.output, c.nx.size, c.nx.keep, c.nx.new, fun h hh ho l hl => c.nx.off h hh ho l (key l hl)⟩
/-- Behind it nothing of ours lies where it lay. -/
theorem Cur.kill_off {w g mem w1 g1 mem1} (c : Cur w g mem w1 g1 mem1) {k : Nat} {e : TypeId} {sz : Nat} {xs : List (List V)} (hk : mem1.toks[k]? = some (.live e sz xs)) (hn : g1.S k ≠ .slice none 0 0) :
    Off { mem1 with toks := setAt mem1.toks k fun _ => .dead } g1 (g1.B k) ∧ ¬ g1.C (g1.B k) ∧ New w g mem (g1.B k) := by
  have hheld : Held mem1 g1 (.tok k) := ⟨hn, e, sz, xs, hk⟩
  refine ⟨fun l hl he => ?_, fun hc => (c.ok.com _ hc).2 _ hheld rfl, fun hh ho => c.nx.off _ hh ho _ hheld rfl⟩
  have hl' : Held mem1 g1 l ∧ l ≠ .tok k := by
    cases l with
    | blk b => exact ⟨hl, by simp⟩
    | tok j =>
      obtain ⟨hn', e', sz', xs', hk'⟩ := hl
      rw [getElem?_setAt] at hk'
      split at hk'
      · simp at hk'
      · rename_i hne
        exact ⟨⟨hn', e', sz', xs', hk'⟩, by simpa using hne⟩
    | mp k => exact ⟨hl, by simp⟩
  exact hl'.2 (c.ok.sep l (.tok k) hl'.1 hheld he)

/-- An array is written to no more. -/
theorem Cur.freeze1 {w g mem w1 g1 mem1} (c : Cur w g mem w1 g1 mem1) (k : Nat) : ∃ g2, Cur w g mem w1 g2 { mem1 with toks := setAt mem1.toks k frz } ∧ Agree g1 g2 := by
  by_cases hl : ∃ e sz xs, mem1.toks[k]? = some (.live e sz xs)
  case neg =>
    refine ⟨g1, ?_, .refl _⟩
    have : setAt mem1.toks k frz = mem1.toks := by
      apply List.ext_getElem?
      intro j
      rw [getElem?_setAt]
      split
      · rename_i h
        subst h
        cases ht : mem1.toks[j]? with
        | none => rfl
        | some t =>
          cases t with
          | live e sz xs => exact absurd ⟨e, sz, xs, ht⟩ hl
          | froz xs => rfl
          | dead => rfl
      · rfl
    rw [this]
    exact c
  obtain ⟨e, sz, xs, hk⟩ := hl
  have htk := c.ok.tok k _ hk
  obtain ⟨h1, h2, h3, h4⟩ := htk
  have key : ∀ (g2 : Gh), (∀ l, g2.at l = g1.at l) → (∀ j, g2.S j = g1.S j) → ∀ l, Held { mem1 with toks := setAt mem1.toks k frz } g2 l → Held mem1 g1 l ∧ l ≠ .tok k := fun g2 _ hS l hl => by
    cases l with
    | blk b => exact ⟨hl, by simp⟩
    | tok j =>
      obtain ⟨hn, e', sz', xs', hj⟩ := hl
      rw [getElem?_setAt] at hj
      split at hj
      · rename_i h
        subst h
        rw [hk] at hj
        simp [frz] at hj
      · rename_i hne
        exact ⟨⟨by rw [← hS]; exact hn, e', sz', xs', hj⟩, by simpa using hne⟩
    | mp k => exact ⟨hl, by simp⟩
  rcases h4 with ⟨hS, rfl⟩ | ⟨cap, arr, hS, hh, hcap, hmax, hsz, hdr, hone⟩
  · refine ⟨g1, ⟨⟨c.ok.nb, by simp [c.ok.nt], c.ok.nm, c.ok.blk, fun j t hj => ?_, c.ok.map, fun l l' hl hl' he => c.ok.sep l l' (key g1 (fun _ => rfl) (fun _ => rfl) l hl).1 (key g1 (fun _ => rfl) (fun _ => rfl) l' hl').1 he,
      fun h hh => ⟨(c.ok.com h hh).1, fun l hl => (c.ok.com h hh).2 l (key g1 (fun _ => rfl) (fun _ => rfl) l hl).1⟩⟩,
      ⟨c.nx.agree, c.nx.os, c.nx.tape, c.nx.output, c.nx.size, c.nx.keep, c.nx.new, fun h hh ho l hl => c.nx.off h hh ho l (key g1 (fun _ => rfl) (fun _ => rfl) l hl).1⟩⟩, .refl _⟩
    simp only [getElem?_setAt] at hj
    split at hj
    · rename_i h
      subst h
      rw [hk] at hj
      simp only [Option.map_some, frz, Option.some.injEq] at hj
      subst hj
      show DR w1 g1.C (.sl []) (g1.S j)
      rw [hS]
      exact .sl0 _ _
    · exact c.ok.tok j t hj
  · have hheld : Held mem1 g1 (.tok k) := ⟨by rw [hS]; simp, e, sz, xs, hk⟩
    have hCold : ∀ h, g1.C h → h ≠ g1.B k := fun h hc he => (c.ok.com h hc).2 _ hheld he.symm
    have ha : Agree g1 { g1 with C := fun h => g1.C h ∨ h = g1.B k } := ⟨Nat.le_refl _, fun _ _ => rfl, Nat.le_refl _, fun _ _ => ⟨rfl, rfl, rfl⟩, Nat.le_refl _, fun _ _ => rfl, fun _ h => .inl h⟩
    have hat : ∀ l, Gh.at { g1 with C := fun h => g1.C h ∨ h = g1.B k } l = g1.at l := fun l => by cases l <;> rfl
    have key' := key { g1 with C := fun h => g1.C h ∨ h = g1.B k } hat (fun _ => rfl)
    refine ⟨{ g1 with C := fun h => g1.C h ∨ h = g1.B k }, ⟨⟨c.ok.nb, by simp [c.ok.nt], c.ok.nm, fun b cs hb => (c.ok.blk b cs hb).keep (c.ok.nb ▸ lt_blk hb) ha (fun _ _ => rfl) rfl, fun j t hj => ?_,
      fun j es hj => (c.ok.map j es hj).keep (c.ok.nm ▸ lt_map hj) ha (fun _ _ => rfl) (fun _ => rfl), fun l l' hl hl' he => ?_, fun h hh' => ?_⟩, ?_⟩, ha⟩
    · simp only [getElem?_setAt] at hj
      split at hj
      · rename_i h
        subst h
        rw [hk] at hj
        simp only [Option.map_some, frz, Option.some.injEq] at hj
        subst hj
        show DR w1 _ (.sl xs) (g1.S j)
        rw [hS]
        have hle : xs.length * sz ≤ arr.size := by rw [hsz]; exact Nat.mul_le_mul_right _ hcap
        refine .sl xs (g1.B j) 0 cap sz arr e (0, 0) (.inr rfl) hh hcap h3 (by simpa using hle) (fun i x j' u hx hu => ?_) (fun i hi => ?_)
        · simpa using (hdr i x j' u hx hu).mono ha.C (fun _ _ => rfl)
        · simpa using hone i hi
      · exact (c.ok.tok j t hj).keep (c.ok.nt ▸ lt_tok hj) ha (fun _ _ => rfl) (fun _ _ => rfl)
    · rw [hat, hat] at he
      exact c.ok.sep l l' (key' l hl).1 (key' l' hl').1 he
    · rcases hh' with hh' | rfl
      · refine ⟨(c.ok.com h hh').1, fun l hl => ?_⟩
        rw [hat]
        exact (c.ok.com h hh').2 l (key' l hl).1
      · refine ⟨c.ok.at_lt hheld, fun l hl => ?_⟩
        rw [hat]
        exact fun he => (key' l hl).2 (c.ok.sep l (.tok k) (key' l hl).1 hheld he)
    · refine ⟨c.nx.agree.trans ha, c.nx.os, c.nx.tape, c.nx.output, c.nx.size, c.nx.keep, fun h hh' ho hc => ?_, fun h hh' ho l hl => ?_⟩
      · rcases hc with hc | rfl
        · exact c.nx.new h hh' ho hc
        · exact absurd rfl (c.nx.off _ hh' ho _ hheld)
      · rw [hat]
        exact c.nx.off h hh' ho l (key' l hl).1
/-- A map is written to no more. -/
theorem Cur.freezeM1 {w g mem w1 g1 mem1} (c : Cur w g mem w1 g1 mem1) (k : Nat) : ∃ g2, Cur w g mem w1 g2 { mem1 with maps := setAt mem1.maps k fun p => (false, p.2) } ∧ Agree g1 g2 := by
  have key : ∀ (g2 : Gh), (∀ j, g2.S j = g1.S j) → ∀ l, Held { mem1 with maps := setAt mem1.maps k fun p => (false, p.2) } g2 l → Held mem1 g1 l ∧ l ≠ .mp k := fun g2 hS l hl => by
    cases l with
    | blk b => exact ⟨hl, by simp⟩
    | tok j =>
      obtain ⟨hn, rest⟩ := hl
      exact ⟨⟨by rw [← hS]; exact hn, rest⟩, by simp⟩
    | mp j =>
      obtain ⟨es, hj⟩ := hl
      rw [getElem?_setAt] at hj
      split at hj
      · simp at hj
      · rename_i hne
        exact ⟨⟨es, hj⟩, by simpa using hne⟩
  by_cases hl : ∃ es, mem1.maps[k]? = some (true, es)
  case neg =>
    refine ⟨g1, ⟨⟨c.ok.nb, c.ok.nt, by simp [c.ok.nm], c.ok.blk, c.ok.tok, fun j p hj => ?_, fun l l' hl hl' he => c.ok.sep l l' (key g1 (fun _ => rfl) l hl).1 (key g1 (fun _ => rfl) l' hl').1 he,
      fun h hh => ⟨(c.ok.com h hh).1, fun l hl => (c.ok.com h hh).2 l (key g1 (fun _ => rfl) l hl).1⟩⟩,
      ⟨c.nx.agree, c.nx.os, c.nx.tape, c.nx.output, c.nx.size, c.nx.keep, c.nx.new, fun h hh ho l hl => c.nx.off h hh ho l (key g1 (fun _ => rfl) l hl).1⟩⟩, .refl _⟩
    simp only [getElem?_setAt] at hj
    split at hj
    · rename_i h
      subst h
      simp only [Option.map_eq_some_iff] at hj
      obtain ⟨⟨b, es⟩, hp, rfl⟩ := hj
      cases b with
      | true => exact absurd ⟨es, hp⟩ hl
      | false => exact c.ok.map j _ hp
    · exact c.ok.map j p hj
  obtain ⟨es, hk⟩ := hl
  obtain ⟨mes, clock, h1, h2, h3, h4⟩ := c.ok.map k _ hk
  have hheld : Held mem1 g1 (.mp k) := ⟨es, hk⟩
  have ha : Agree g1 { g1 with C := fun h => g1.C h ∨ h = g1.M k } := ⟨Nat.le_refl _, fun _ _ => rfl, Nat.le_refl _, fun _ _ => ⟨rfl, rfl, rfl⟩, Nat.le_refl _, fun _ _ => rfl, fun _ h => .inl h⟩
  have hat : ∀ l, Gh.at { g1 with C := fun h => g1.C h ∨ h = g1.M k } l = g1.at l := fun l => by cases l <;> rfl
  have key' := key { g1 with C := fun h => g1.C h ∨ h = g1.M k } (fun _ => rfl)
  refine ⟨{ g1 with C := fun h => g1.C h ∨ h = g1.M k }, ⟨⟨c.ok.nb, c.ok.nt, by simp [c.ok.nm], fun b cs hb => (c.ok.blk b cs hb).keep (c.ok.nb ▸ lt_blk hb) ha (fun _ _ => rfl) rfl,
    fun j t hj => (c.ok.tok j t hj).keep (c.ok.nt ▸ lt_tok hj) ha (fun _ _ => rfl) (fun _ _ => rfl), fun j p hj => ?_, fun l l' hl hl' he => ?_, fun h hh' => ?_⟩, ?_⟩, ha⟩
  · simp only [getElem?_setAt] at hj
    split at hj
    · rename_i h
      subst h
      rw [hk] at hj
      simp only [Option.map_some, Option.some.injEq] at hj
      subst hj
      exact .imap es _ mes clock (.inr rfl) h1 h2 (fun i p hp => (h3 i p hp).mono ha.C (fun _ _ => rfl)) (fun i p hp => (h4 i p hp).mono ha.C (fun _ _ => rfl))
    · exact (c.ok.map j p hj).keep (c.ok.nm ▸ lt_map hj) ha (fun _ _ => rfl) (fun _ => rfl)
  · rw [hat, hat] at he
    exact c.ok.sep l l' (key' l hl).1 (key' l' hl').1 he
  · rcases hh' with hh' | rfl
    · refine ⟨(c.ok.com h hh').1, fun l hl => ?_⟩
      rw [hat]
      exact (c.ok.com h hh').2 l (key' l hl).1
    · refine ⟨c.ok.at_lt hheld, fun l hl => ?_⟩
      rw [hat]
      exact fun he => (key' l hl).2 (c.ok.sep l (.mp k) (key' l hl).1 hheld he)
  · refine ⟨c.nx.agree.trans ha, c.nx.os, c.nx.tape, c.nx.output, c.nx.size, c.nx.keep, fun h hh' ho hc => ?_, fun h hh' ho l hl => ?_⟩
    · rcases hc with hc | rfl
      · exact c.nx.new h hh' ho hc
      · exact absurd rfl (c.nx.off _ hh' ho _ hheld)
    · rw [hat]
      exact c.nx.off h hh' ho l (key' l hl).1
theorem Cur.freezeM {w g mem} : ∀ (ks : List Nat) {w1 g1 mem1} (c : Cur w g mem w1 g1 mem1), ∃ g2, Cur w g mem w1 g2 (mem1.freezeM ks) ∧ Agree g1 g2
  | [], _, g1, _, c => ⟨g1, c, .refl _⟩
  | k :: r, _, g1, mem1, c => by
    obtain ⟨g2, c2, h2⟩ := c.freezeM1 k
    obtain ⟨g3, c3, h3⟩ := Cur.freezeM r c2
    exact ⟨g3, c3, h2.trans h3⟩
theorem Cur.freeze {w g mem} : ∀ (ks : List Nat) {w1 g1 mem1} (c : Cur w g mem w1 g1 mem1), ∃ g2, Cur w g mem w1 g2 (mem1.freeze ks) ∧ Agree g1 g2
  | [], _, g1, _, c => ⟨g1, c, .refl _⟩
  | k :: r, _, g1, mem1, c => by
    obtain ⟨g2, c2, h2⟩ := c.freeze1 k
    obtain ⟨g3, c3, h3⟩ := Cur.freeze r c2
    exact ⟨g3, c3, h2.trans h3⟩
end Go.Vm

namespace Go.Vm
open Go

/-! Types -/
theorem mkTy_inv {P : Program} {t : TypeId} {ty : Ty} (h : mkTy P t = some ty) : ∃ i d z, P.info? t = some i ∧ P.underlying t = some d ∧ i.zero = some z ∧ ofVal z = some ty.zero ∧ i.size = ty.size ∧ i.bytes = ty.bytes ∧
    ty.agg = aggD d ∧ ty.u = tyU d := by
  unfold mkTy at h
  split at h
  · rename_i i d hi hd
    split at h
    · rename_i z hz
      split at h
      · rename_i zv hzv
        injection h with h
        subst h
        exact ⟨i, d, z, hi, hd, hz, hzv, rfl, rfl, rfl, rfl⟩
      · cases h
    · cases h
  · cases h
section
variable {P : Program} {t : TypeId} {ty : Ty} (h : mkTy P t = some ty) (w : World)
include h
theorem run_typeInfo' : ∃ i, P.info? t = some i ∧ (typeInfo t).run P w = .ok i w ∧ i.size = ty.size ∧ i.bytes = ty.bytes := by
  obtain ⟨i, d, z, hi, hd, hz, hzv, hs, hb, ha, hu⟩ := mkTy_inv h
  exact ⟨i, hi, by simp [typeInfo, hi], hs, hb⟩
theorem run_sizeOf' : (sizeOf t).run P w = .ok ty.size w := by
  obtain ⟨i, hi, hr, hs, _⟩ := run_typeInfo' h w
  simp [sizeOf, hr, hs]
theorem run_isAgg' : (isAgg t).run P w = .ok ty.agg w := by
  obtain ⟨i, d, z, hi, hd, hz, hzv, hs, hb, ha, hu⟩ := mkTy_inv h
  rw [ha]
  unfold isAgg
  rw [Sem.run_bind, run_underlying hd w]
  cases d <;> simp [aggD]
theorem run_zero' : ∃ z, (zeroValue t).run P w = .ok z w ∧ ofVal z = some ty.zero := by
  obtain ⟨i, d, z, hi, hd, hz, hzv, hs, hb, ha, hu⟩ := mkTy_inv h
  exact ⟨z, by simp [zeroValue, typeInfo, hi, hz], hzv⟩
theorem underlying_slice {e : TypeId} (hu : ty.u = .slice e) : P.underlying t = some (.slice e) := by
  obtain ⟨i, d, z, hi, hd, hz, hzv, hs, hb, ha, hu'⟩ := mkTy_inv h
  rw [hu] at hu'
  cases d <;> simp [tyU] at hu'
  rw [hd, hu']
theorem underlying_int {k : IntKind} (hu : ty.u = .int k) : P.underlying t = some (.int k) := by
  obtain ⟨i, d, z, hi, hd, hz, hzv, hs, hb, ha, hu'⟩ := mkTy_inv h
  rw [hu] at hu'
  cases d <;> simp [tyU] at hu'
  rw [hd, hu']
theorem underlying_bool (hu : ty.u = .bool) : P.underlying t = some .bool := by
  obtain ⟨i, d, z, hi, hd, hz, hzv, hs, hb, ha, hu'⟩ := mkTy_inv h
  rw [hu] at hu'
  cases d <;> simp [tyU] at hu'
  rw [hd]
theorem underlying_string (hu : ty.u = .string) : P.underlying t = some .string := by
  obtain ⟨i, d, z, hi, hd, hz, hzv, hs, hb, ha, hu'⟩ := mkTy_inv h
  rw [hu] at hu'
  cases d <;> simp [tyU] at hu'
  rw [hd]
theorem underlying_array {n : Nat} {e : TypeId} (hu : ty.u = .array n e) : P.underlying t = some (.array n e) := by
  obtain ⟨i, d, z, hi, hd, hz, hzv, hs, hb, ha, hu'⟩ := mkTy_inv h
  rw [hu] at hu'
  cases d <;> simp [tyU] at hu'
  rw [hd, hu'.1, hu'.2]
theorem underlying_map {k e : TypeId} (hu : ty.u = .map k e) : P.underlying t = some (.map k e) := by
  obtain ⟨i, d, z, hi, hd, hz, hzv, hs, hb, ha, hu'⟩ := mkTy_inv h
  rw [hu] at hu'
  cases d <;> simp [tyU] at hu'
  rw [hd, hu'.1, hu'.2]
theorem underlying_struct {fs : List (Nat × TypeId)} (hu : ty.u = .struct fs) : ∃ fields : Array Go.Field, P.underlying t = some (.struct fields) ∧ ∀ (i o : Nat) (ft : TypeId), fs[i]? = some (o, ft) → ∃ f : Go.Field, fields[i]? = some f ∧ f.offset = o ∧ f.type = ft := by
  obtain ⟨i, d, z, hi, hd, hz, hzv, hs, hb, ha, hu'⟩ := mkTy_inv h
  rw [hu] at hu'
  cases d <;> simp [tyU] at hu'
  rename_i fields
  refine ⟨fields, hd, fun i o ft hf => ?_⟩
  rw [hu'] at hf
  simp only [List.getElem?_map, Option.map_eq_some_iff, Prod.mk.injEq] at hf
  obtain ⟨f, hf, h1, h2⟩ := hf
  exact ⟨f, by simpa using hf, h1, h2⟩
end

/-! Constants -/
theorem mapM_get {α β : Type} {f : α → Option β} : ∀ {l : List α} {us : List β}, l.mapM f = some us → us.length = l.length ∧ ∀ (i : Nat) (u : β), us[i]? = some u → ∃ x, l[i]? = some x ∧ f x = some u
  | [], us, h => by
    simp at h
    subst h
    simp
  | a :: l, us, h => by
    simp only [List.mapM_cons, Option.bind_eq_bind, Option.bind_eq_some_iff, Option.pure_def, Option.some.injEq] at h
    obtain ⟨b, hb, bs, hbs, rfl⟩ := h
    obtain ⟨h1, h2⟩ := mapM_get hbs
    refine ⟨by simp [h1], fun i u hu => ?_⟩
    cases i with
    | zero =>
      simp at hu
      subst hu
      exact ⟨a, rfl, hb⟩
    | succ i => exact h2 i u (by simpa using hu)
theorem ofValN_rel {w : World} {C : Nat → Prop} : ∀ (n : Nat) {v : Value} {u : V}, ofValN n v = some u → DR w C u v
  | 0, v, u, h => by simp [ofValN] at h
  | n + 1, v, u, h => by
    simp only [ofValN] at h
    split at h <;> try (injection h with h; subst h; first | exact .int _ _ | exact .bool _ | exact .str _ | exact .nilp | exact .nilsl | exact .nilfn | exact .nili)
    · rename_i cs
      simp only [Option.map_eq_some_iff] at h
      obtain ⟨us, hus, rfl⟩ := h
      obtain ⟨h1, h2⟩ := mapM_get hus
      refine .agg us cs (by simpa using h1.symm) fun i u hu => ?_
      obtain ⟨x, hx, hf⟩ := h2 i u hu
      have : cs.getD i undef = x := by
        have : cs[i]? = some x := by simpa using hx
        simp [Array.getD_eq_getD_getElem?, this]
      rw [this]
      exact ofValN_rel n hf
    · cases h
theorem ofVal_rel {w : World} {C : Nat → Prop} {v : Value} {u : V} (h : ofVal v = some u) : DR w C u v := ofValN_rel 3 h

/-- The frame's slots. -/
def ERel (w : World) (g : Gh) (env : List (Nat × V)) (a : Act) : Prop := ∀ t, VR w g (lookE env t) (a.tmps.getD t undef)
theorem get_rel {w : World} {g : Gh} {s : St} {a : Act} (h : ERel w g s.env a) (x : Operand) : VR w g (s.get x) (a.eval x) := by
  cases x with
  | tmp t => exact h t
  | const v =>
    simp only [St.get, Act.eval]
    cases hv : ofVal v with
    | none => exact .junk _
    | some u => exact .data (ofVal_rel hv)
  | func f => exact .data (.fn _ [] [] #[] #[] rfl rfl (fun i u hu => by simp at hu) (fun i u hu => by simp at hu))
  | global n => exact .junk _
theorem ERel.put {w : World} {g : Gh} {env : List (Nat × V)} {a : Act} (h : ERel w g env a) (d : Option Nat) {v : V} {mv : Value} (hv : VR w g v mv) (hd : ∀ t, d = some t → t < a.tmps.size) : ERel w g (putE env d v) (a.put d mv) := by
  cases d with
  | none => exact h
  | some t =>
    intro j
    simp only [putE, lookE, Act.put]
    split
    · rename_i e
      subst e
      have := hd t rfl
      simpa [Array.getD_eq_getD_getElem?, this] using hv
    · rename_i e
      simpa [Array.getD_eq_getD_getElem?, Array.getElem?_setIfInBounds_ne e] using h j

/-! Cells of a value -/
theorem cells_rel {w : World} {g : Gh} {v : V} {mv : Value} (h : VR w g v mv) (hj : v.isJunk = false) : mv.cells.size = v.cells.length ∧ ∀ i u, v.cells[i]? = some u → VR w g u (mv.cells.getD i undef) := by
  have one : ∀ {v : V} {mv : Value}, VR w g v mv → v.cells = [v] → mv.cells = #[mv] → mv.cells.size = v.cells.length ∧ ∀ i u, v.cells[i]? = some u → VR w g u (mv.cells.getD i undef) := fun hv h1 h2 => by
    rw [h1, h2]
    refine ⟨rfl, fun i u hu => ?_⟩
    cases i with
    | zero =>
      simp at hu
      subst hu
      simpa using hv
    | succ i => simp at hu
  cases h with
  | data h =>
    cases h with
    | agg cs A hA h1 => exact ⟨hA, fun i u hu => .data (h1 i u hu)⟩
    | int k n => exact one (.data (.int k n)) rfl rfl
    | bool b => exact one (.data (.bool b)) rfl rfl
    | str s => exact one (.data (.str s)) rfl rfl
    | nilsl => exact one (.data .nilsl) rfl rfl
    | sl0 A cap => exact one (.data (.sl0 A cap)) rfl rfl
    | sl xs g off cap sz arr e fr h1 h2 h3 h4 h5 h6 h7 => exact one (.data (.sl xs g off cap sz arr e fr h1 h2 h3 h4 h5 h6 h7)) rfl rfl
    | nilp => exact one (.data .nilp) rfl rfl
    | nilfn => exact one (.data .nilfn) rfl rfl
    | nili => exact one (.data .nili) rfl rfl
    | iptr cs g off arr e fr h1 h2 h5 h6 => exact one (.data (.iptr cs g off arr e fr h1 h2 h5 h6)) rfl rfl
    | fn f fs cs A B hA hB h1 h2 => exact one (.data (.fn f fs cs A B hA hB h1 h2)) rfl rfl
    | tuple cs A hA h1 => exact one (.data (.tuple cs A hA h1)) rfl rfl
    | iface t v mv h => exact one (.data (.iface t v mv h)) rfl rfl
    | imap es r mes clock h1 h2 h3 h4 h5 => exact one (.data (.imap es r mes clock h1 h2 h3 h4 h5)) rfl rfl
  | ptr b off h => exact one (.ptr b off h) rfl rfl
  | osl k h hs =>
    obtain ⟨A, n, c, he⟩ := hs
    exact one (.osl k h ⟨A, n, c, he⟩) rfl (by rw [he]; rfl)
  | eptr k i off h => exact one (.eptr k i off h) rfl rfl
  | omap k h => exact one (.omap k h) rfl rfl
  | fn f fs cs A B hA hB h1 h2 => exact one (.fn f fs cs A B hA hB h1 h2) rfl rfl
  | agg cs A hA h1 => exact ⟨hA, h1⟩
  | tuple cs A hA h1 => exact one (.tuple cs A hA h1) rfl rfl
  | iface t v mv h => exact one (.iface t v mv h) rfl rfl
  | junk mv => simp [V.isJunk] at hj
theorem one_rel {w : World} {g : Gh} {v : V} {mv : Value} (h : VR w g v mv) (ho : v.one = true) : mv.oneCell' = true := by
  cases h with
  | data h => cases h <;> first | rfl | simp [V.one] at ho
  | ptr b off h => rfl
  | osl k h hs => obtain ⟨A, n, c, he⟩ := hs; rw [he]; rfl
  | eptr k i off h => rfl
  | omap k h => rfl
  | fn f fs cs A B hA hB h1 h2 => rfl
  | agg cs A hA h1 => simp [V.one] at ho
  | tuple cs A hA h1 => simp [V.one] at ho
  | iface t v mv h => rfl
  | junk mv => simp [V.one] at ho
theorem ones_iff {vs : List V} : ones vs = true ↔ ∀ v ∈ vs, v.one = true := by
  induction vs with
  | nil => simp [ones]
  | cons v r ih => simp [ones, ih]
theorem notJunk_of_ones {v : V} (h : ones v.cells = true) : v.isJunk = false := by
  cases v <;> simp_all [V.isJunk, V.cells, ones, V.one]

/-! Norm -/
theorem normL_get (m : Mem) : ∀ (vs : List V) (i : Nat), (normL m vs)[i]? = (vs[i]?).map (V.norm m)
  | [], i => by simp [normL]
  | v :: r, 0 => by simp [normL]
  | v :: r, i + 1 => by simpa [normL] using normL_get m r i
@[simp] theorem normL_length (m : Mem) : ∀ (vs : List V), (normL m vs).length = vs.length
  | [] => rfl
  | v :: r => by simp [normL, normL_length m r]
theorem DR.norm {w : World} {C : Nat → Prop} {m : Mem} {v : V} {mv : Value} (h : DR w C v mv) : DR w C (v.norm m) mv := by
  have lst : ∀ {vs : List V} {A : Array Value}, (∀ i u, vs[i]? = some u → DR w C (u.norm m) (A.getD i undef)) → ∀ i u, (normL m vs)[i]? = some u → DR w C u (A.getD i undef) := fun hv i u hu => by
    rw [normL_get, Option.map_eq_some_iff] at hu
    obtain ⟨x, hx, rfl⟩ := hu
    exact hv i x hx
  induction h with
  | nilsl => exact .sl0 _ _
  | fn f fs cs A B hA hB h1 h2 ih1 ih2 => exact .fn f _ _ A B (by simp [hA]) (by simp [hB]) (lst ih1) (lst ih2)
  | agg cs A hA h1 ih => exact .agg _ A (by simp [hA]) (lst ih)
  | tuple cs A hA h1 ih => exact .tuple _ A (by simp [hA]) (lst ih)
  | iface t v mv h ih => exact .iface t _ mv ih
  | int k n => exact .int k n
  | bool b => exact .bool b
  | str s => exact .str s
  | sl0 A cap => exact .sl0 A cap
  | sl xs g off cap sz arr e fr h1 h2 h3 h4 h5 h6 h7 ih => exact .sl xs g off cap sz arr e fr h1 h2 h3 h4 h5 h6 h7
  | nilp => exact .nilp
  | nilfn => exact .nilfn
  | nili => exact .nili
  | iptr cs g off arr e fr h1 h2 h5 h6 ih => exact .iptr cs g off arr e fr h1 h2 h5 h6
  | imap es r mes clock h1 h2 h3 h4 h5 ih4 ih5 => exact .imap es r mes clock h1 h2 h3 h4 h5
theorem VR.norm {w : World} {g : Gh} {m : Mem} (hm : MemOk w g m) {v : V} {mv : Value} (h : VR w g v mv) : VR w g (v.norm m) mv := by
  have lst : ∀ {vs : List V} {A : Array Value}, (∀ i u, vs[i]? = some u → VR w g (u.norm m) (A.getD i undef)) → ∀ i u, (normL m vs)[i]? = some u → VR w g u (A.getD i undef) := fun hv i u hu => by
    rw [normL_get, Option.map_eq_some_iff] at hu
    obtain ⟨x, hx, rfl⟩ := hu
    exact hv i x hx
  induction h with
  | data h => exact .data h.norm
  | ptr b off h => exact .ptr b off h
  | osl k h hs =>
    simp only [V.norm]
    split
    · rename_i xs hk
      exact .data (hm.tok k _ hk)
    · exact .osl k h hs
  | eptr k i off h => exact .eptr k i off h
  | omap k h =>
    simp only [V.norm]
    split
    · rename_i es hk
      exact .data (hm.map k _ hk)
    · exact .omap k h
  | fn f fs cs A B hA hB h1 h2 ih1 ih2 => exact .fn f _ _ A B (by simp [hA]) (by simp [hB]) (lst ih1) (lst ih2)
  | agg cs A hA h1 ih => exact .agg _ A (by simp [hA]) (lst ih)
  | tuple cs A hA h1 ih => exact .tuple _ A (by simp [hA]) (lst ih)
  | iface t v mv h ih => exact .iface t _ mv ih
  | junk mv => exact .junk mv
theorem Cur.settle {w g mem w1 g1 mem1} (c : Cur w g mem w1 g1 mem1) {v : V} {mv : Value} (h : VR w1 g1 v mv) : ∃ g2, Cur w g mem w1 g2 (settle mem1 v).1 ∧ Agree g1 g2 ∧ VR w1 g2 (settle mem1 v).2 mv := by
  obtain ⟨g2, c2, h2⟩ := Cur.freeze v.tks c
  obtain ⟨g3, c3, h3⟩ := Cur.freezeM v.mks c2
  exact ⟨g3, c3, h2.trans h3, (h.mono (h2.trans h3) (fun _ _ => rfl)).norm c3.ok⟩
theorem VRL.mono {w w' : World} {g g' : Gh} (ha : Agree g g') (hw : ∀ h, g.C h → w'.heap[h]? = w.heap[h]?) {vs : List V} {A : Array Value} (h : VRL w g vs A) : VRL w' g' vs A :=
  ⟨h.1, fun i u hu => (h.2 i u hu).mono ha hw⟩
theorem Cur.settleL {w g mem w1 g1 mem1} (c : Cur w g mem w1 g1 mem1) {vs : List V} {A : Array Value} (h : VRL w1 g1 vs A) : ∃ g2, Cur w g mem w1 g2 (settleL mem1 vs).1 ∧ Agree g1 g2 ∧ VRL w1 g2 (settleL mem1 vs).2 A := by
  obtain ⟨g2, c2, h2⟩ := Cur.freeze (tksL vs) c
  obtain ⟨g3, c3, h3⟩ := Cur.freezeM (mksL vs) c2
  refine ⟨g3, c3, h2.trans h3, by simp [Go.Vm.settleL, h.1], fun i u hu => ?_⟩
  simp only [Go.Vm.settleL, normL_get, Option.map_eq_some_iff] at hu
  obtain ⟨x, hx, rfl⟩ := hu
  exact ((h.2 i x hx).mono (h2.trans h3) (fun _ _ => rfl)).norm c3.ok

/-! Loads -/
theorem add_lit (g o j : Nat) : (⟨g, o, none⟩ : Addr).add j = ⟨g, o + j, none⟩ := by unfold Addr.add; split <;> simp_all
theorem run_loadVar' {P : Program} {t : TypeId} {ty : Ty} (h : mkTy P t = some ty) (w : World) (b off : Nat) (arr : Array Value) (e : TypeId) (fr : Nat × Nat) (hb : w.heap[b]? = some (.cells arr e fr)) :
    (ty.agg = true → off + ty.size ≤ arr.size → (loadVar t ⟨b, off, none⟩).run P w = .ok (.agg (arr.extract off (off + ty.size))) w) ∧
    (ty.agg = false → off < arr.size → (loadVar t ⟨b, off, none⟩).run P w = .ok (arr.getD off undef) w) := by
  constructor
  · intro ha hs
    have hl := run_loadCells_list (P := P) w ⟨b, off, none⟩ (arr.extract off (off + ty.size)).toList (fun j v hv => by
      rw [add_lit, cell_of_row w b (off + j) arr e fr hb]
      simp only [Array.toList_extract, List.extract_eq_take_drop, List.getElem?_take, List.getElem?_drop] at hv
      split at hv
      · simpa using hv
      · cases hv)
    have hlen : (arr.extract off (off + ty.size)).toList.length = ty.size := by simp; omega
    rw [hlen] at hl
    simp only [loadVar, Sem.run_bind, run_isAgg' h w, ha, Result.andThen_ok, if_true, run_sizeOf' h w, hl, Sem.run_pure]
  · intro ha hs
    have hc : w.cell? ⟨b, off, none⟩ = some (arr.getD off undef) := by
      rw [cell_of_row w b off arr e fr hb]
      simp [Array.getD_eq_getD_getElem?, hs]
    simp [loadVar, Sem.run_bind, run_isAgg' h w, ha, hc]
/-- A part of a row of cells. -/
theorem part_rel {w : World} {g : Gh} {ty : Ty} {cs : List V} {off : Nat} {v : V} (hp : part ty cs off = some v) (arr : Array Value) (o : Nat) (hs : o + cs.length ≤ arr.size)
    (hr : ∀ i u, cs[i]? = some u → VR w g u (arr.getD (o + i) undef)) :
    (ty.agg = true → o + off + ty.size ≤ arr.size ∧ VR w g v (.agg (arr.extract (o + off) (o + off + ty.size)))) ∧ (ty.agg = false → o + off < arr.size ∧ VR w g v (arr.getD (o + off) undef)) := by
  unfold part at hp
  constructor
  · intro ha
    rw [if_pos ha] at hp
    split at hp
    · rename_i hle
      injection hp with hp
      subst hp
      refine ⟨by omega, .agg _ _ (by simp; omega) fun i u hu => ?_⟩
      rw [List.getElem?_take] at hu
      split at hu
      · rename_i hi
        rw [List.getElem?_drop] at hu
        have := hr _ u hu
        have e : (arr.extract (o + off) (o + off + ty.size)).getD i undef = arr.getD (o + (off + i)) undef := by
          have hlt : o + (off + i) < arr.size := by omega
          simp only [Array.getD_eq_getD_getElem?, Array.getElem?_extract]
          rw [if_pos (by omega)]
          simp [Nat.add_assoc]
        rw [e]
        exact this
      · cases hu
    · cases hp
  · intro ha
    rw [if_neg (by simp [ha])] at hp
    have hlt : off < cs.length := (List.getElem?_eq_some_iff.1 hp).1
    exact ⟨by omega, hr off v hp⟩
end Go.Vm

namespace Go.Vm
open Go

/-- What an operation comes to, told of the model's run. -/
def OpOk (w : World) (g : Gh) (mem : Mem) (res : Result Next) (v : V) (mem' : Mem) : Prop :=
  ∃ mv w' g', (res = .ok (.value mv) w' ∨ (res = .ok .skip w' ∧ mv = undef)) ∧ VR w' g' v mv ∧ Cur w g mem w' g' mem'
theorem OpOk.same {w : World} {g : Gh} {mem : Mem} (hm : MemOk w g mem) {res : Result Next} {v : V} {mv : Value} (hr : res = .ok (.value mv) w) (hv : VR w g v mv) : OpOk w g mem res v mem :=
  ⟨mv, w, g, .inl hr, hv, .start hm⟩

section
variable {P : Program} {w : World} {g : Gh} {mem : Mem} (hm : MemOk w g mem)
include hm

theorem alloc_cur (cs : List V) (arr : Array Value) (e : TypeId) (hs : arr.size = cs.length) (hv : ∀ i v, cs[i]? = some v → VR w g v (arr.getD i undef)) :
    Cur w g mem (w.alloc (.cells arr e)) (g.addB w.heap.size) { mem with blks := mem.blks ++ [cs] } := by
  have c1 : Cur w g mem (w.alloc (.cells arr e)) g mem := (Cur.start hm).draw (w.alloc (.cells arr e)) rfl rfl rfl (by simp) (fun h hh => heap_alloc_old w _ h hh)
  refine c1.addBlk w.heap.size cs arr e (New.of_ge (Nat.le_refl _)) (fun hc => ?_) (fun l hl he => ?_) (heap_alloc_new w _) hs (fun i v hi => c1.vr hm (hv i v hi))
  · exact absurd (hm.com _ hc).1 (Nat.lt_irrefl _)
  · have := hm.at_lt hl
    omega
theorem addB_ptr (h : Nat) (w' : World) : VR w' (g.addB h) (.ptr mem.blks.length 0) (.pointer (some ⟨h, 0, none⟩)) := by
  have : (g.addB h).m mem.blks.length = h := by simp [Gh.addB, hm.nb]
  have e : VR w' (g.addB h) (.ptr mem.blks.length 0) (.pointer (some ⟨(g.addB h).m mem.blks.length, 0, none⟩)) := .ptr _ 0 (by rw [← hm.nb]; exact Nat.lt_succ_self _)
  rwa [this] at e

theorem op_alloc {t : TypeId} {ty : Ty} (h : mkTy P t = some ty) (ρ : Operand → Value) (o : Oper) (ho : o.op = .alloc t) :
    OpOk w g mem ((execOp ρ o).run P w) (.ptr mem.blks.length 0) { mem with blks := mem.blks ++ [ty.zero.cells] } := by
  obtain ⟨z, hz, hzv⟩ := run_zero' h w
  have hzr : VR w g ty.zero z := .data (ofVal_rel hzv)
  have hzj : ty.zero.isJunk = false := by
    generalize ty.zero = u at hzv ⊢
    have : DR w g.C u z := ofVal_rel hzv
    cases this <;> rfl
  obtain ⟨h1, h2⟩ := cells_rel hzr hzj
  refine ⟨.pointer (some ⟨w.heap.size, 0, none⟩), w.alloc (.cells z.cells t), g.addB w.heap.size, .inl ?_, addB_ptr hm _ _, alloc_cur hm _ _ _ h1 h2⟩
  simp [execOp, ho, Instr.alloc, hz, newVar, newRow]

theorem op_box {t : TypeId} {x : Operand} {v : V} (ρ : Operand → Value) (hv : VR w g v (ρ x)) (hj : v.isJunk = false) (o : Oper) (ho : o.op = .box t x) :
    OpOk w g mem ((execOp ρ o).run P w) (.ptr mem.blks.length 0) { mem with blks := mem.blks ++ [v.cells] } := by
  obtain ⟨h1, h2⟩ := cells_rel hv hj
  refine ⟨.pointer (some ⟨w.heap.size, 0, none⟩), w.alloc (.cells (ρ x).cells t), g.addB w.heap.size, .inl ?_, addB_ptr hm _ _, alloc_cur hm _ _ _ h1 h2⟩
  simp [execOp, ho, Instr.box, newVar, newRow]

/-- A load, wherever the address leads. -/
theorem load_rel {t : TypeId} {ty : Ty} (h : mkTy P t = some ty) {av v : V} {ma : Value} (ha : VR w g av ma) (hl : loadV mem ty av = some v) :
    ∃ mv, (Instr.loadAt t ma).run P w = .ok mv w ∧ VR w g v mv := by
  have fin : ∀ (b off o : Nat) (arr : Array Value) (e : TypeId) (fr : Nat × Nat) (cs : List V), w.heap[b]? = some (.cells arr e fr) → o + cs.length ≤ arr.size →
      (∀ i u, cs[i]? = some u → VR w g u (arr.getD (o + i) undef)) → part ty cs off = some v → ma = .pointer (some ⟨b, o + off, none⟩) → ∃ mv, (Instr.loadAt t ma).run P w = .ok mv w ∧ VR w g v mv := by
    intro b off o arr e fr cs hb hs hr hp hma
    subst hma
    have hrun := run_loadVar' h w b (o + off) arr e fr hb
    have hpr := part_rel hp arr o hs hr
    cases hagg : ty.agg with
    | true => exact ⟨_, by simp [Instr.loadAt, Instr.sureAddr, hrun.1 hagg (hpr.1 hagg).1], (hpr.1 hagg).2⟩
    | false => exact ⟨_, by simp [Instr.loadAt, Instr.sureAddr, hrun.2 hagg (hpr.2 hagg).1], (hpr.2 hagg).2⟩
  unfold loadV at hl
  split at hl
  · rename_i b off
    split at hl
    · rename_i cs hb
      obtain ⟨hma, _⟩ := ha.ptr_inv
      obtain ⟨arr, e, h1, h2, h3⟩ := hm.blk b cs hb
      exact fin (g.m b) off 0 arr e _ cs h1 (by omega) (by simpa using h3) hl (by simpa using hma)
    · cases hl
  · rename_i cs
    have := ha.iptr_inv
    cases this with
    | iptr _ b off arr e fr h1 h2 h5 h6 => exact fin b 0 off arr e fr cs h2 h5 (fun i u hu => .data (h6 i u hu)) hl rfl
  · rename_i k i off
    obtain ⟨hma, hk⟩ := ha.eptr_inv
    split at hl
    · rename_i xs hxs
      split at hl
      · rename_i cs hi
        unfold tokXs at hxs
        split at hxs
        · rename_i e sz xs' hkt
          injection hxs with hxs
          subst hxs
          obtain ⟨h1, h2, h3, h4⟩ := hm.tok k _ hkt
          rcases h4 with ⟨_, rfl⟩ | ⟨cap, arr, hS, hh, hcap, hmax, hsz, hdr, hone⟩
          · simp at hi
          · have hil : i < xs'.length := (List.getElem?_eq_some_iff.1 hi).1
            have hcl : cs.length = sz := h3 cs (mem_of_get hi)
            have hle : i * sz + sz ≤ arr.size := by
              rw [hsz]
              calc i * sz + sz = (i + 1) * sz := by rw [Nat.add_mul, Nat.one_mul]
                _ ≤ cap * sz := Nat.mul_le_mul_right _ (by omega)
            refine fin (g.B k) off (i * sz) arr e _ cs hh (by omega) (fun j u hu => .data (hdr i cs j u hi hu)) hl ?_
            rw [hma, h2]
        · cases hxs
      · cases hl
    · cases hl
  · cases hl

/-! Stores -/
-- What stands in a row behind a store.
omit hm in
theorem splice_rel {cs new : List V} {off : Nat} (arr : Array Value) (mnew : List Value) (o : Nat) (hlen : mnew.length = new.length) (hs : o + cs.length ≤ arr.size) (hle : off + new.length ≤ cs.length) (R : V → Value → Prop)
    (h1 : ∀ i u, cs[i]? = some u → R u (arr.getD (o + i) undef)) (h2 : ∀ i u, new[i]? = some u → R u (mnew.getD i undef)) :
    ∀ i u, (splice cs off new)[i]? = some u → R u ((arr.toList.take (o + off) ++ mnew ++ arr.toList.drop (o + off + mnew.length)).toArray.getD (o + i) undef) := by
  intro i u hu
  have hg : ∀ j, (arr.toList.take (o + off) ++ mnew ++ arr.toList.drop (o + off + mnew.length)).toArray.getD j undef =
      if j < o + off then arr.getD j undef else if j < o + off + mnew.length then mnew.getD (j - (o + off)) undef else arr.getD j undef := by
    intro j
    have ht : (arr.toList.take (o + off)).length = o + off := by simp; omega
    simp only [Array.getD_eq_getD_getElem?, List.getElem?_toArray, List.getD_eq_getElem?_getD]
    by_cases c1 : j < o + off
    · rw [if_pos c1, List.append_assoc, List.getElem?_append_left (by omega), List.getElem?_take, if_pos c1]
      simp
    · rw [if_neg c1]
      by_cases c2 : j < o + off + mnew.length
      · rw [if_pos c2, List.append_assoc, List.getElem?_append_right (by omega), ht, List.getElem?_append_left (by omega)]
      · rw [if_neg c2, List.getElem?_append_right (by simp; omega), List.getElem?_drop]
        have : o + off + mnew.length + (j - (List.take (o + off) arr.toList ++ mnew).length) = j := by simp; omega
        rw [this]
        simp
  rw [hg]
  have hls : (cs.take off).length = off := by simp; omega
  unfold splice at hu
  by_cases c1 : i < off
  · rw [if_pos (by omega)]
    rw [List.append_assoc, List.getElem?_append_left (by omega), List.getElem?_take, if_pos c1] at hu
    exact h1 i u hu
  · rw [if_neg (by omega)]
    by_cases c2 : i < off + new.length
    · rw [if_pos (by omega)]
      rw [List.append_assoc, List.getElem?_append_right (by omega), hls, List.getElem?_append_left (by omega)] at hu
      have := h2 (i - off) u hu
      have e : o + i - (o + off) = i - off := by omega
      rw [e]
      exact this
    · rw [if_neg (by omega)]
      rw [List.getElem?_append_right (by simp; omega), List.getElem?_drop] at hu
      have e : off + new.length + (i - (cs.take off ++ new).length) = i := by simp; omega
      rw [e] at hu
      exact h1 i u hu
omit hm in
theorem splice_length {cs new : List V} {off : Nat} (hle : off + new.length ≤ cs.length) : (splice cs off new).length = cs.length := by
  simp [splice]; omega
omit hm in
theorem run_storeVar' {t : TypeId} {ty : Ty} (h : mkTy P t = some ty) (b off : Nat) (arr : Array Value) (e : TypeId) (mv : Value) (hb : w.heap[b]? = some (.cells arr e (0, 0))) (hs : mv.cells.size = ty.size) (hle : off + ty.size ≤ arr.size)
    (h1 : ∀ v ∈ mv.cells.toList, v.oneCell' = true) :
    (Instr.storeAt t (.pointer (some ⟨b, off, none⟩)) mv).run P w = .ok () (w.setRow b (arr.toList.take off ++ mv.cells.toList ++ arr.toList.drop (off + mv.cells.toList.length)).toArray) := by
  have := run_storeCells_at P b off e mv.cells.toList 0 arr w hb (by simp; omega) h1
  simp only [Nat.add_zero] at this
  simp [Instr.storeAt, Instr.sureAddr, storeVar, run_sizeOf' h w, hs, this]

theorem cur_setRow_blk {b : Nat} {cs cs' : List V} (hb : mem.blks[b]? = some cs) (arr arr' : Array Value) (e : TypeId) (ha : w.heap[g.m b]? = some (.cells arr e (0, 0))) (hs : arr'.size = cs'.length)
    (hr : ∀ i v, cs'[i]? = some v → VR w g v (arr'.getD i undef)) : Cur w g mem (w.setRow (g.m b) arr') g { mem with blks := setAt mem.blks b fun _ => cs' } := by
  have hheld : Held mem g (.blk b) := lt_blk hb
  have hoth : ∀ h, h ≠ g.m b → (w.setRow (g.m b) arr').heap[h]? = w.heap[h]? := fun h hh => setRow_other w _ _ _ hh
  have hcom : ∀ h, g.C h → (w.setRow (g.m b) arr').heap[h]? = w.heap[h]? := fun h hc => hoth h fun he => (hm.com h hc).2 _ hheld he.symm
  have hne : ∀ l, Held mem g l → l ≠ .blk b → (w.setRow (g.m b) arr').heap[g.at l]? = w.heap[g.at l]? := fun l hl hn => hoth _ fun he => hn (hm.sep l (.blk b) hl hheld he)
  have hH : ∀ l, Held { mem with blks := setAt mem.blks b fun _ => cs' } g l ↔ Held mem g l := fun l => by
    cases l with
    | blk j => simp [Held]
    | tok k => exact Iff.rfl
    | mp k => exact Iff.rfl
  refine ⟨⟨by simp [hm.nb], hm.nt, hm.nm, fun j c hj => ?_, fun k t hk => ?_, fun k p hk => ?_, fun l l' hl hl' he => hm.sep l l' ((hH l).1 hl) ((hH l').1 hl') he, fun h hc => ⟨by simpa using (hm.com h hc).1, fun l hl => (hm.com h hc).2 l ((hH l).1 hl)⟩⟩,
    ⟨.refl g, rfl, rfl, rfl, by simp, fun h hh ho => hoth h fun he => ho _ hheld he.symm, fun _ _ _ hc => hc, fun h hh ho l hl => ho l ((hH l).1 hl)⟩⟩
  · simp only [getElem?_setAt] at hj
    split at hj
    · rename_i hjb
      subst hjb
      rw [hb] at hj
      simp only [Option.map_some, Option.some.injEq] at hj
      subst hj
      exact ⟨arr', e, setRow_heap w _ arr _ e _ ha, hs, fun i v hi => (hr i v hi).mono (.refl g) hcom⟩
    · rename_i hjb
      exact (hm.blk j c hj).keep (hm.nb ▸ lt_blk hj) (.refl g) hcom (hne (.blk j) (lt_blk hj) (by simpa using hjb))
  · exact (hm.tok k t hk).keep (hm.nt ▸ lt_tok hk) (.refl g) hcom fun ⟨e, sz, xs, he⟩ hn => hne (.tok k) ⟨hn, e, sz, xs, he ▸ hk⟩ (by simp)
  · refine (hm.map k p hk).keep (hm.nm ▸ lt_map hk) (.refl g) hcom fun hp => hne (.mp k) ?_ (by simp)
    obtain ⟨q, es⟩ := p
    obtain rfl : q = true := hp
    exact ⟨es, hk⟩
theorem cur_setRow_tok {k : Nat} {e : TypeId} {sz : Nat} {xs xs' : List (List V)} {cap : Nat} (hk : mem.toks[k]? = some (.live e sz xs)) (hS : g.S k = .slice (some ⟨g.B k, 0, none⟩) xs.length cap) (arr arr' : Array Value)
    (ha : w.heap[g.B k]? = some (.cells arr e (0, 0))) (hl : xs'.length = xs.length) (hsz' : arr'.size = arr.size) (hx : ∀ x ∈ xs', x.length = sz)
    (hr : ∀ i x j u, xs'[i]? = some x → x[j]? = some u → DR w g.C u (arr'.getD (i * sz + j) undef)) (h1 : ∀ i, i < xs.length * sz → (arr'.getD i undef).oneCell' = true) :
    Cur w g mem (w.setRow (g.B k) arr') g { mem with toks := setAt mem.toks k fun _ => .live e sz xs' } := by
  have htk := hm.tok k _ hk
  obtain ⟨t1, t2, t3, t4⟩ := htk
  have hn : g.S k ≠ .slice none 0 0 := by rw [hS]; simp
  have hheld : Held mem g (.tok k) := ⟨hn, e, sz, xs, hk⟩
  have hoth : ∀ h, h ≠ g.B k → (w.setRow (g.B k) arr').heap[h]? = w.heap[h]? := fun h hh => setRow_other w _ _ _ hh
  have hcom : ∀ h, g.C h → (w.setRow (g.B k) arr').heap[h]? = w.heap[h]? := fun h hc => hoth h fun he => (hm.com h hc).2 _ hheld he.symm
  have hne : ∀ l, Held mem g l → l ≠ .tok k → (w.setRow (g.B k) arr').heap[g.at l]? = w.heap[g.at l]? := fun l hl hn => hoth _ fun he => hn (hm.sep l (.tok k) hl hheld he)
  have hH : ∀ l, Held { mem with toks := setAt mem.toks k fun _ => .live e sz xs' } g l → Held mem g l := fun l hl => by
    cases l with
    | blk j => exact hl
    | tok j =>
      obtain ⟨hn', e', sz', ys, hj⟩ := hl
      rw [getElem?_setAt] at hj
      split at hj
      · rename_i he
        subst he
        exact hheld
      · exact ⟨hn', e', sz', ys, hj⟩
    | mp k => exact hl
  refine ⟨⟨hm.nb, by simp [hm.nt], hm.nm, fun j c hj => ?_, fun j t hj => ?_, fun j p hj => ?_, fun l l' hl hl' he => hm.sep l l' (hH l hl) (hH l' hl') he, fun h hc => ⟨by simpa using (hm.com h hc).1, fun l hl => (hm.com h hc).2 l (hH l hl)⟩⟩,
    ⟨.refl g, rfl, rfl, rfl, by simp, fun h hh ho => hoth h fun he => ho _ hheld he.symm, fun _ _ _ hc => hc, fun h hh ho l hl => ho l (hH l hl)⟩⟩
  · exact (hm.blk j c hj).keep (hm.nb ▸ lt_blk hj) (.refl g) hcom (hne (.blk j) (lt_blk hj) (by simp))
  · simp only [getElem?_setAt] at hj
    split at hj
    · rename_i hjb
      subst hjb
      rw [hk] at hj
      simp only [Option.map_some, Option.some.injEq] at hj
      subst hj
      rcases t4 with ⟨h, _⟩ | ⟨cap', arr0, hS', hh, hcap, hmax, hsz, hdr, hone⟩
      · exact absurd h hn
      · have hce : cap' = cap := by rw [hS] at hS'; injection hS' with _ _ h; exact h.symm
        subst hce
        have hae : arr0 = arr := by rw [ha] at hh; injection hh with hh; injection hh with h; exact h.symm
        subst hae
        exact ⟨t1, t2, hx, .inr ⟨cap', arr', by rw [hl]; exact hS, setRow_heap w _ arr0 _ e _ ha, by omega, hmax, by omega, fun i x j' u hxi hu => (hr i x j' u hxi hu).mono (fun _ h => h) hcom, by rw [hl]; exact h1⟩⟩
    · rename_i hjb
      exact (hm.tok j t hj).keep (hm.nt ▸ lt_tok hj) (.refl g) hcom fun ⟨e, sz, xs, he⟩ hn => hne (.tok j) ⟨hn, e, sz, xs, he ▸ hj⟩ (by simpa using hjb)
  · refine (hm.map j p hj).keep (hm.nm ▸ lt_map hj) (.refl g) hcom fun hp => hne (.mp j) ?_ (by simp)
    obtain ⟨q, es⟩ := p
    obtain rfl : q = true := hp
    exact ⟨es, hj⟩
end
end Go.Vm

namespace Go.Vm
open Go

theorem store_skip {P : Program} {w w' : World} (ρ : Operand → Value) (o : Oper) {t : TypeId} {a x : Operand} (ho : o.op = .store t a x) (h : (Instr.storeAt t (ρ a) (ρ x)).run P w = .ok () w') : (execOp ρ o).run P w = .ok .skip w' := by
  simp [execOp, ho, h]

section
variable {P : Program} {w : World} {g : Gh} {mem : Mem} (hm : MemOk w g mem)
include hm

theorem op_store {t : TypeId} {ty : Ty} (h : mkTy P t = some ty) {a x : Operand} (ρ : Operand → Value) {av v : V} (ha : VR w g av (ρ a)) (hv : VR w g v (ρ x)) {m' : Mem} (hs : storeV mem ty v av = some m') (o : Oper) (ho : o.op = .store t a x) :
    OpOk w g mem ((execOp ρ o).run P w) .junk m' := by
  unfold storeV at hs
  split at hs
  · rename_i b off
    obtain ⟨hpa, hbn⟩ := ha.ptr_inv
    split at hs
    · rename_i cs hb
      split at hs
      · rename_i hc
        obtain ⟨c1, c2, c3⟩ := hc
        injection hs with hs
        subst hs
        obtain ⟨r1, r2⟩ := cells_rel hv (notJunk_of_ones c3)
        obtain ⟨arr, e, h1, h2, h3⟩ := hm.blk b cs hb
        have hone : ∀ mv ∈ (ρ x).cells.toList, mv.oneCell' = true := fun mv hmv => by
          obtain ⟨i, hi⟩ := List.getElem?_of_mem hmv
          have hil : i < v.cells.length := by
            have := (List.getElem?_eq_some_iff.1 hi).1
            simp at this
            omega
          have hr := r2 i v.cells[i] (List.getElem?_eq_getElem hil)
          have e1 : (ρ x).cells.getD i undef = mv := by
            simp only [Array.getD_eq_getD_getElem?]
            simp at hi
            simp [hi]
          rw [e1] at hr
          exact one_rel hr (ones_iff.1 c3 _ (List.getElem_mem hil))
        have hrun := run_storeVar' (w := w) h (g.m b) off arr e (ρ x) h1 (by omega) (by omega) hone
        rw [← hpa] at hrun
        refine ⟨undef, _, g, .inr ⟨store_skip ρ o ho hrun, rfl⟩, .junk _, cur_setRow_blk hm hb arr _ e h1 ?_ ?_⟩
        · rw [splice_length (by omega)]
          simp; omega
        · have := splice_rel (cs := cs) (new := v.cells) (off := off) arr (ρ x).cells.toList 0 (by simp; omega) (by omega) (by omega) (fun u mv => VR w g u mv) (by simpa using h3) (fun i u hu => by
            have := r2 i u hu
            simpa [Array.getD_eq_getD_getElem?, List.getD_eq_getElem?_getD] using this)
          simpa using this
      · cases hs
    · cases hs
  · rename_i k i off
    obtain ⟨hpa, hkn⟩ := ha.eptr_inv
    obtain ⟨g2, c2, a2, hv2⟩ := (Cur.start hm).settle hv
    simp only at hs
    split at hs
    · rename_i e sz xs hk
      split at hs
      · rename_i cs hi
        split at hs
        · rename_i hc
          obtain ⟨q1, q2, q3, q4⟩ := hc
          injection hs with hs
          subst hs
          obtain ⟨r1, r2⟩ := cells_rel hv2 (notJunk_of_ones q4)
          obtain ⟨t1, t2, t3, t4⟩ := c2.ok.tok k _ hk
          have hil : i < xs.length := (List.getElem?_eq_some_iff.1 hi).1
          have hcl : cs.length = sz := t3 cs (mem_of_get hi)
          rcases t4 with ⟨_, rfl⟩ | ⟨cap, arr, hS, hh, hcap, hmax, hsz, hdr, hone⟩
          · simp at hil
          have hle : i * sz + sz ≤ arr.size := by
            rw [hsz]
            calc i * sz + sz = (i + 1) * sz := by rw [Nat.add_mul, Nat.one_mul]
              _ ≤ cap * sz := Nat.mul_le_mul_right _ (by omega)
          have hle2 : i * sz + sz ≤ xs.length * sz := by
            calc i * sz + sz = (i + 1) * sz := by rw [Nat.add_mul, Nat.one_mul]
              _ ≤ xs.length * sz := Nat.mul_le_mul_right _ (by omega)
          have hB : g2.B k = g.B k := (a2.t k hkn).2.1
          have hZ : g2.Z k = g.Z k := (a2.t k hkn).2.2
          have hone' : ∀ mv ∈ (ρ x).cells.toList, mv.oneCell' = true := fun mv hmv => by
            obtain ⟨j, hj⟩ := List.getElem?_of_mem hmv
            have hjl : j < (settle mem v).2.cells.length := by
              have := (List.getElem?_eq_some_iff.1 hj).1
              simp at this
              omega
            have hr := r2 j (settle mem v).2.cells[j] (List.getElem?_eq_getElem hjl)
            have e1 : (ρ x).cells.getD j undef = mv := by
              simp only [Array.getD_eq_getD_getElem?]
              simp at hj
              simp [hj]
            rw [e1] at hr
            exact one_rel hr (ones_iff.1 q4 _ (List.getElem_mem hjl))
          have hrun := run_storeVar' (w := w) h (g2.B k) (i * sz + off) arr e (ρ x) hh (by omega) (by omega) hone'
          have hpe : ρ a = .pointer (some ⟨g2.B k, i * sz + off, none⟩) := by rw [hpa, hB, ← t2, hZ]
          rw [← hpe] at hrun
          have hplain : ∀ u ∈ (settle mem v).2.cells, u.plain = true := by
            have hq := q3
            generalize (settle mem v).2 = u at hq
            cases u <;> simp_all [V.cells, V.plain, plainL_iff]
          have hcur := cur_setRow_tok c2.ok (xs' := setAt xs i fun _ => splice cs off (settle mem v).2.cells) hk hS arr
            (arr.toList.take (i * sz + off) ++ (ρ x).cells.toList ++ arr.toList.drop (i * sz + off + (ρ x).cells.toList.length)).toArray hh (by simp) (by simp; omega) (fun x' hx' => ?_) (fun i' x' j u hx' hu => ?_) (fun i' hi' => ?_)
          · refine ⟨undef, _, g2, .inr ⟨store_skip ρ o ho hrun, rfl⟩, .junk _, hcur.ok, c2.nx.trans hcur.nx⟩
          · obtain ⟨j, hj⟩ := List.getElem?_of_mem hx'
            rw [getElem?_setAt] at hj
            split at hj
            · simp only [Option.map_eq_some_iff] at hj
              obtain ⟨_, _, rfl⟩ := hj
              rw [splice_length (by omega)]
              exact hcl
            · exact t3 x' (mem_of_get hj)
          · rw [getElem?_setAt] at hx'
            split at hx'
            · rename_i he
              subst he
              simp only [hi, Option.map_some, Option.some.injEq] at hx'
              subst hx'
              exact splice_rel (cs := cs) (new := (settle mem v).2.cells) (off := off) arr (ρ x).cells.toList (i' * sz) (by simp; omega) (by omega) (by omega) (fun u mv => DR w g2.C u mv) (fun j u hu => hdr i' cs j u hi hu) (fun j u hu => by
                have := r2 j u hu
                have := this.plain (hplain u (mem_of_get hu))
                simpa [Array.getD_eq_getD_getElem?, List.getD_eq_getElem?_getD] using this) j u hu
            · rename_i hne
              have hx2 : i' < xs.length := (List.getElem?_eq_some_iff.1 hx').1
              have hj2 : j < sz := by
                have := (List.getElem?_eq_some_iff.1 hu).1
                have := t3 x' (mem_of_get hx')
                omega
              have hd := hdr i' x' j u hx' hu
              have hmn : (ρ x).cells.toList.length = (settle mem v).2.cells.length := by simp; omega
              have hap : ¬ (i * sz + off ≤ i' * sz + j ∧ i' * sz + j < i * sz + off + (ρ x).cells.toList.length) := by
                intro ⟨l1, l2⟩
                rcases Nat.lt_or_ge i' i with hlt | hge
                · have : i' * sz + sz ≤ i * sz := by
                    calc i' * sz + sz = (i' + 1) * sz := by rw [Nat.add_mul, Nat.one_mul]
                      _ ≤ i * sz := Nat.mul_le_mul_right _ (by omega)
                  omega
                · have : i * sz + sz ≤ i' * sz := by
                    calc i * sz + sz = (i + 1) * sz := by rw [Nat.add_mul, Nat.one_mul]
                      _ ≤ i' * sz := Nat.mul_le_mul_right _ (by omega)
                  omega
              have hge : (arr.toList.take (i * sz + off) ++ (ρ x).cells.toList ++ arr.toList.drop (i * sz + off + (ρ x).cells.toList.length)).toArray.getD (i' * sz + j) undef = arr.getD (i' * sz + j) undef := by
                have ht : (arr.toList.take (i * sz + off)).length = i * sz + off := by simp; omega
                simp only [Array.getD_eq_getD_getElem?, List.getElem?_toArray]
                by_cases c1 : i' * sz + j < i * sz + off
                · rw [List.append_assoc, List.getElem?_append_left (by omega), List.getElem?_take, if_pos c1]
                  simp
                · rw [List.getElem?_append_right (by simp; omega), List.getElem?_drop]
                  have : i * sz + off + (ρ x).cells.toList.length + (i' * sz + j - (List.take (i * sz + off) arr.toList ++ (ρ x).cells.toList).length) = i' * sz + j := by simp; simp at hap; omega
                  rw [this]
                  simp
              rw [hge]
              exact hd
          · have ht : (arr.toList.take (i * sz + off)).length = i * sz + off := by simp; omega
            have hmn : (ρ x).cells.toList.length = (settle mem v).2.cells.length := by simp; omega
            simp only [Array.getD_eq_getD_getElem?, List.getElem?_toArray]
            by_cases c1 : i' < i * sz + off
            · rw [List.append_assoc, List.getElem?_append_left (by omega), List.getElem?_take, if_pos c1]
              have := hone i' hi'
              simpa [Array.getD_eq_getD_getElem?] using this
            · by_cases c2' : i' < i * sz + off + (ρ x).cells.toList.length
              · rw [List.append_assoc, List.getElem?_append_right (by omega), ht, List.getElem?_append_left (by omega)]
                have hlt : i' - (i * sz + off) < (ρ x).cells.toList.length := by omega
                rw [List.getElem?_eq_getElem hlt]
                exact hone' _ (List.getElem_mem hlt)
              · rw [List.getElem?_append_right (by simp; simp at c2'; omega), List.getElem?_drop]
                have : i * sz + off + (ρ x).cells.toList.length + (i' - (List.take (i * sz + off) arr.toList ++ (ρ x).cells.toList).length) = i' := by simp; simp at c2'; omega
                rw [this]
                have := hone i' hi'
                simpa [Array.getD_eq_getD_getElem?] using this
        · cases hs
      · cases hs
    · cases hs
  · cases hs
end
end Go.Vm

namespace Go.Vm
open Go

theorem run_listMapM {α β : Type} {P : Program} {w : World} (f : α → Sem β) (f' : α → β) : ∀ (l : List α), (∀ x ∈ l, (f x).run P w = .ok (f' x) w) → (l.mapM f).run P w = .ok (l.map f') w
  | [], _ => rfl
  | x :: l, h => by
    rw [List.mapM_cons]
    simp [h x (by simp), run_listMapM f f' l (fun y hy => h y (by simp [hy]))]
theorem run_mapM {α β : Type} {P : Program} {w : World} (f : α → Sem β) (f' : α → β) (xs : Array α) (h : ∀ x ∈ xs, (f x).run P w = .ok (f' x) w) : (xs.mapM f).run P w = .ok (xs.map f') w := by
  rw [Array.mapM_eq_mapM_toList, Sem.run_map, run_listMapM f f' xs.toList (fun x hx => h x (by simpa using hx))]
  simp only [Result.andThen_ok]
  rw [← Array.toList_map]
theorem typed_iff {P : Program} : ∀ {fs : List (Nat × TypeId)}, typed P fs = true → ∀ p ∈ fs, ∃ ty, mkTy P p.2 = some ty
  | [], _, p, hp => by simp at hp
  | (o, t) :: r, h, p, hp => by
    simp only [typed, Bool.and_eq_true, Option.isSome_iff_exists] at h
    simp only [List.mem_cons] at hp
    rcases hp with rfl | hp
    · exact h.1
    · exact typed_iff h.2 p hp

theorem foldl_set (off : Nat) : ∀ (vs : List Value) (k : Nat) (arr : Array Value),
    ((vs.zipIdx k).foldl (fun cs (p : Value × Nat) => cs.setIfInBounds (off + p.2) p.1) arr).size = arr.size ∧
    ∀ j, ((vs.zipIdx k).foldl (fun cs (p : Value × Nat) => cs.setIfInBounds (off + p.2) p.1) arr).getD j undef =
      if off + k ≤ j ∧ j < off + k + vs.length ∧ j < arr.size then vs.getD (j - (off + k)) undef else arr.getD j undef
  | [], k, arr => by simp; intros; omega
  | v :: r, k, arr => by
    have ih := foldl_set off r (k + 1) (arr.setIfInBounds (off + k) v)
    simp only [List.zipIdx_cons, List.foldl_cons]
    refine ⟨by rw [ih.1]; simp, fun j => ?_⟩
    rw [ih.2]
    simp only [Array.size_setIfInBounds, List.length_cons]
    by_cases c1 : off + (k + 1) ≤ j ∧ j < off + (k + 1) + r.length ∧ j < arr.size
    · rw [if_pos c1, if_pos (by omega)]
      have : j - (off + k) = (j - (off + (k + 1))) + 1 := by omega
      rw [this]
      simp
    · rw [if_neg c1]
      by_cases c2 : j = off + k
      · subst c2
        by_cases c3 : off + k < arr.size
        · rw [if_pos (by omega)]
          simp [Array.getD_eq_getD_getElem?, c3]
        · rw [if_neg (by omega)]
          simp [Array.getD_eq_getD_getElem?, Array.getElem?_setIfInBounds, c3]
      · rw [if_neg (by omega)]
        simp [Array.getD_eq_getD_getElem?, Array.getElem?_setIfInBounds_ne (Ne.symm c2)]

def CRel (w : World) (g : Gh) (cs : List V) (arr : Array Value) : Prop := arr.size = cs.length ∧ ∀ i u, cs[i]? = some u → VR w g u (arr.getD i undef)
theorem zipIdx_toArray (cells : Array Value) (off : Nat) (arr : Array Value) :
    cells.zipIdx.foldl (fun cs (p : Value × Nat) => cs.setIfInBounds (off + p.2) p.1) arr = (cells.toList.zipIdx 0).foldl (fun cs (p : Value × Nat) => cs.setIfInBounds (off + p.2) p.1) arr := by
  rw [← Array.foldl_toList]
  simp
theorem fill_rel {w : World} {g : Gh} {pv pm : Nat → Option (Nat × Nat)} (hp : ∀ i p, pv i = some p → pm i = some p) : ∀ (ps : List (Nat × V)) (mps : List (Nat × Value)) (cs cs' : List V) (arr : Array Value),
    CRel w g cs arr → mps.length = ps.length → (∀ (i : Nat) (p : Nat × V) (q : Nat × Value), ps[i]? = some p → mps[i]? = some q → q.1 = p.1 ∧ VR w g p.2 q.2) → fillV pv cs ps = some cs' →
    ∃ arr', Instr.fill pm arr mps = some arr' ∧ CRel w g cs' arr'
  | [], [], cs, cs', arr, hc, _, _, hf => by
    simp only [fillV, Option.some.injEq] at hf
    subst hf
    exact ⟨arr, rfl, hc⟩
  | [], q :: r, cs, cs', arr, hc, hl, _, hf => by simp at hl
  | p :: r, [], cs, cs', arr, hc, hl, _, hf => by simp at hl
  | (i, v) :: r, (j, mv) :: mr, cs, cs', arr, hc, hl, hr, hf => by
    obtain ⟨he, hv⟩ := hr 0 (i, v) (j, mv) rfl rfl
    simp only at he hv
    subst he
    simp only [fillV] at hf
    split at hf
    · rename_i off size hpl
      split at hf
      · rename_i hcond
        obtain ⟨q0, q1, q2⟩ := hcond
        obtain ⟨r1, r2⟩ := cells_rel hv q0
        have hfs := foldl_set off mv.cells.toList 0 arr
        have hnew : CRel w g (splice cs off v.cells) (mv.cells.zipIdx.foldl (fun cs (p : Value × Nat) => cs.setIfInBounds (off + p.2) p.1) arr) := by
          rw [zipIdx_toArray]
          refine ⟨by rw [hfs.1, splice_length (by omega)]; exact hc.1, fun i u hu => ?_⟩
          rw [hfs.2]
          have hlt : i < cs.length := by
            have := (List.getElem?_eq_some_iff.1 hu).1
            rwa [splice_length (by omega)] at this
          have hls : (cs.take off).length = off := by simp; omega
          unfold splice at hu
          have hca := hc.1
          by_cases c1 : i < off
          · rw [if_neg (by omega)]
            rw [List.append_assoc, List.getElem?_append_left (by omega), List.getElem?_take, if_pos c1] at hu
            exact hc.2 i u hu
          · by_cases c2 : i < off + v.cells.length
            · rw [if_pos (by simp; omega)]
              rw [List.append_assoc, List.getElem?_append_right (by omega), hls, List.getElem?_append_left (by omega)] at hu
              have := r2 (i - off) u hu
              simpa [Array.getD_eq_getD_getElem?, List.getD_eq_getElem?_getD] using this
            · rw [if_neg (by simp; omega)]
              rw [List.getElem?_append_right (by simp; omega), List.getElem?_drop] at hu
              have e : off + v.cells.length + (i - (cs.take off ++ v.cells).length) = i := by simp; omega
              rw [e] at hu
              exact hc.2 i u hu
        obtain ⟨arr', h1, h2⟩ := fill_rel hp r mr _ cs' _ hnew (by simpa using hl) (fun i p q h1 h2 => hr (i + 1) p q (by simpa using h1) (by simpa using h2)) hf
        refine ⟨arr', ?_, h2⟩
        simp only [Instr.fill, hp _ _ hpl]
        have hcs : mv.cells.size = size := by omega
        rw [if_neg (by simp [hcs]; have := hc.1; omega)]
        exact h1
      · cases hf
    · cases hf

section
variable {P : Program} {w : World} {g : Gh} {mem : Mem} (hm : MemOk w g mem)
include hm

omit hm in
theorem parts_rel {s : St} {a : Act} (hE : ERel w g s.env a) (ps : Array (Nat × Operand)) :
    (ps.map fun p => (p.1, a.eval p.2)).toList.length = (ps.toList.map fun p => (p.1, s.get p.2)).length ∧
    ∀ (i : Nat) (p : Nat × V) (q : Nat × Value), (ps.toList.map fun p => (p.1, s.get p.2))[i]? = some p → ((ps.map fun p => (p.1, a.eval p.2)).toList)[i]? = some q → q.1 = p.1 ∧ VR w g p.2 q.2 := by
  refine ⟨by simp, fun i p q hp hq => ?_⟩
  simp only [List.getElem?_map, Option.map_eq_some_iff] at hp
  obtain ⟨x, hx, rfl⟩ := hp
  have hx' : ps[i]? = some x := by simpa using hx
  simp [hx'] at hq
  subst hq
  exact ⟨rfl, get_rel hE _⟩
omit hm in
theorem zero_crel {ty : Ty} {z : Value} (hzv : ofVal z = some ty.zero) : CRel w g ty.zero.cells z.cells := by
  have hzr : VR w g ty.zero z := .data (ofVal_rel hzv)
  have hzj : ty.zero.isJunk = false := by
    generalize ty.zero = u at hzv ⊢
    have : DR w g.C u z := ofVal_rel hzv
    cases this <;> rfl
  exact cells_rel hzr hzj

theorem op_build_struct {t : TypeId} {ty : Ty} (h : mkTy P t = some ty) {fs : List (Nat × TypeId)} (hu : ty.u = .struct fs) (ht : typed P fs = true) {s : St} {a : Act} (hE : ERel w g s.env a) (ps : Array (Nat × Operand)) {cs : List V}
    (hf : fillV (fun i => match fs[i]? with
        | some (o, ft) => match mkTy P ft with
          | some ty => some (o, ty.size)
          | none => none
        | none => none) ty.zero.cells (ps.toList.map fun p => (p.1, s.get p.2)) = some cs) (o : Oper) (ho : o.op = .build t ps) :
    OpOk w g mem ((execOp a.eval o).run P w) (.agg cs) mem := by
  obtain ⟨z, hz, hzv⟩ := run_zero' h w
  obtain ⟨fields, hd, hfld⟩ := underlying_struct h hu
  have hfs : fs = fields.toList.map fun f => (f.offset, f.type) := by
    obtain ⟨i, d, z, hi, hd', hz, hzv, hs, hb, ha, hu'⟩ := mkTy_inv h
    rw [hd] at hd'
    injection hd' with hd'
    subst hd'
    rw [hu] at hu'
    simp only [tyU, TyU.struct.injEq] at hu'
    exact hu'
  have hall : ∀ f ∈ fields, ∃ ty', mkTy P f.type = some ty' := fun f hf' => typed_iff ht (f.offset, f.type) (by rw [hfs]; exact List.mem_map.2 ⟨f, by simpa using hf', rfl⟩)
  have hplaces : (fields.mapM fun f => do pure (f.offset, ← sizeOf f.type) : Sem (Array (Nat × Nat))).run P w = .ok (fields.map fun f => (f.offset, ((mkTy P f.type).map (·.size)).getD 0)) w :=
    run_mapM _ _ _ fun f hf' => by
      obtain ⟨ty', hty'⟩ := hall f hf'
      simp [run_sizeOf' hty' w, hty']
  obtain ⟨p1, p2⟩ := parts_rel hE ps
  obtain ⟨arr', hfill, hcr⟩ := fill_rel (pm := fun i => (fields.map fun f => (f.offset, ((mkTy P f.type).map (·.size)).getD 0))[i]?) (fun i p hp => by
    split at hp
    · rename_i o' ft hft
      split at hp
      · rename_i ty' hty'
        obtain ⟨f, hf1, rfl, rfl⟩ := hfld i o' ft hft
        simp only [Option.some.injEq] at hp
        subst hp
        simp [hf1, hty']
      · cases hp
    · cases hp) _ _ _ _ _ (zero_crel hzv) p1 p2 hf
  refine .same hm (mv := .agg arr') ?_ (.agg _ _ hcr.1 hcr.2)
  simp only [execOp, ho, Instr.build, Sem.run_bind, hz, Result.andThen_ok, run_underlying hd, hplaces]
  rw [hfill]
  rfl
theorem op_build_array {t e : TypeId} {n : Nat} {ty ty' : Ty} (h : mkTy P t = some ty) (hu : ty.u = .array n e) (h' : mkTy P e = some ty') {s : St} {a : Act} (hE : ERel w g s.env a) (ps : Array (Nat × Operand)) {cs : List V}
    (hf : fillV (fun i => some (i * ty'.size, ty'.size)) ty.zero.cells (ps.toList.map fun p => (p.1, s.get p.2)) = some cs) (o : Oper) (ho : o.op = .build t ps) :
    OpOk w g mem ((execOp a.eval o).run P w) (.agg cs) mem := by
  obtain ⟨z, hz, hzv⟩ := run_zero' h w
  have hd := underlying_array h hu
  obtain ⟨p1, p2⟩ := parts_rel hE ps
  obtain ⟨arr', hfill, hcr⟩ := fill_rel (pm := fun i => some (i * ty'.size, ty'.size)) (fun i p hp => hp) _ _ _ _ _ (zero_crel hzv) p1 p2 hf
  refine .same hm (mv := .agg arr') ?_ (.agg _ _ hcr.1 hcr.2)
  simp only [execOp, ho, Instr.build, Sem.run_bind, hz, Result.andThen_ok, run_underlying hd, run_sizeOf' h']
  rw [hfill]
  rfl
end
end Go.Vm

namespace Go.Vm
open Go

theorem flatten_rep {α : Type} (l : List α) (hl : 0 < l.length) : ∀ (n j : Nat), ((List.replicate n l).flatten)[j]? = if j < n * l.length then l[j % l.length]? else none
  | 0, j => by simp
  | n + 1, j => by
    rw [List.replicate_succ, List.flatten_cons]
    by_cases h : j < l.length
    · rw [List.getElem?_append_left h, if_pos (by rw [Nat.add_mul, Nat.one_mul]; omega), Nat.mod_eq_of_lt h]
    · rw [List.getElem?_append_right (by omega), flatten_rep l hl n]
      have e : j % l.length = (j - l.length) % l.length := by rw [Nat.mod_eq_sub_mod (by omega)]
      rw [e]
      by_cases h2 : j - l.length < n * l.length
      · rw [if_pos h2, if_pos (by rw [Nat.add_mul, Nat.one_mul]; omega)]
      · rw [if_neg h2, if_neg (by rw [Nat.add_mul, Nat.one_mul]; omega)]
theorem splice_mem {cs new : List V} {off : Nat} {u : V} (h : u ∈ splice cs off new) : u ∈ cs ∨ u ∈ new := by
  simp only [splice, List.mem_append] at h
  rcases h with (h | h) | h
  · exact .inl (List.mem_of_mem_take h)
  · exact .inr h
  · exact .inl (List.mem_of_mem_drop h)
theorem fillV_mem {place : Nat → Option (Nat × Nat)} {Q : V → Prop} : ∀ (ps : List (Nat × V)) (cs cs' : List V), (∀ u ∈ cs, Q u) → (∀ p ∈ ps, ∀ u ∈ p.2.cells, Q u) → fillV place cs ps = some cs' → (∀ u ∈ cs', Q u) ∧ cs'.length = cs.length
  | [], cs, cs', h1, _, hf => by
    simp only [fillV, Option.some.injEq] at hf
    subst hf
    exact ⟨h1, rfl⟩
  | (i, v) :: r, cs, cs', h1, h2, hf => by
    simp only [fillV] at hf
    split at hf
    · split at hf
      · rename_i hc
        have := fillV_mem r _ cs' (fun u hu => by
          rcases splice_mem hu with h | h
          · exact h1 u h
          · exact h2 (i, v) (by simp) u h) (fun p hp => h2 p (by simp [hp])) hf
        exact ⟨this.1, this.2.trans (splice_length (by omega))⟩
      · cases hf
    · cases hf
theorem ofValN_plain : ∀ (n : Nat) {v : Value} {u : V}, ofValN n v = some u → u.plain = true
  | 0, v, u, h => by simp [ofValN] at h
  | n + 1, v, u, h => by
    simp only [ofValN] at h
    split at h <;> try (injection h with h; subst h; rfl)
    · simp only [Option.map_eq_some_iff] at h
      obtain ⟨us, hus, rfl⟩ := h
      simp only [V.plain, plainL_iff]
      intro x hx
      obtain ⟨i, hi⟩ := List.getElem?_of_mem hx
      obtain ⟨y, _, hf⟩ := (mapM_get hus).2 i x hi
      exact ofValN_plain n hf
    · cases h
theorem cells_plain {v : V} (h : v.plain = true) : ∀ u ∈ v.cells, u.plain = true := by
  cases v <;> simp_all [V.cells, V.plain, plainL_iff]
theorem onesL_iff {vs : List (List V)} : onesL vs = true ↔ ∀ v ∈ vs, ones v = true := by
  induction vs with
  | nil => simp [onesL]
  | cons v r ih => simp [onesL, ih]
theorem chunk_get (cs : List V) (n sz : Nat) (i : Nat) (x : List V) (hx : ((List.range n).map fun i => (cs.drop (i * sz)).take sz)[i]? = some x) : i < n ∧ x = (cs.drop (i * sz)).take sz := by
  simp only [List.getElem?_map, Option.map_eq_some_iff] at hx
  obtain ⟨j, hj, rfl⟩ := hx
  have := List.getElem?_eq_some_iff.1 hj
  obtain ⟨h1, h2⟩ := this
  simp at h1 h2
  subst h2
  exact ⟨h1, rfl⟩
theorem mul_le_chunk {i n sz : Nat} (h : i < n) : i * sz + sz ≤ n * sz := by
  calc i * sz + sz = (i + 1) * sz := by rw [Nat.add_mul, Nat.one_mul]
    _ ≤ n * sz := Nat.mul_le_mul_right _ (by omega)

section
variable {P : Program} {w : World} {g : Gh} {mem : Mem} (hm : MemOk w g mem)
include hm

/-- The row that buildSlice lays. -/
theorem buildSlice_row {t e : TypeId} {n : Nat} {ty0 ty : Ty} (h0 : mkTy P t = some ty0) (hu : ty0.u = .slice e) (h : mkTy P e = some ty) (hsz : 0 < ty.size) (hzl : ty.zero.cells.length = ty.size) (hn : n ≤ 1000) (hns : n * ty.size ≤ 16777216)
    {s : St} {a : Act} (hE : ERel w g s.env a) (ps : Array (Nat × Operand)) (hpl : plainL (settleL mem (ps.toList.map fun p => s.get p.2)).2 = true) (hon : onesL ((settleL mem (ps.toList.map fun p => s.get p.2)).2.map V.cells) = true)
    (hoz : ones ty.zero.cells = true) {cs : List V}
    (hf : fillV (fun i => some (i * ty.size, ty.size)) ((List.replicate n ty.zero.cells).flatten) ((ps.toList.map (·.1)).zip (settleL mem (ps.toList.map fun p => s.get p.2)).2) = some cs) (o : Oper) (ho : o.op = .buildSlice t n ps) :
    ∃ arr g2, Cur w g mem w g2 (settleL mem (ps.toList.map fun p => s.get p.2)).1 ∧ (execOp a.eval o).run P w = .ok (.value (.slice (some ⟨w.heap.size, 0, none⟩) n n)) (w.alloc (.cells arr e)) ∧ arr.size = n * ty.size ∧ cs.length = n * ty.size ∧
      (∀ i u, cs[i]? = some u → DR w g2.C u (arr.getD i undef)) ∧ ∀ i, i < n * ty.size → (arr.getD i undef).oneCell' = true := by
  obtain ⟨z, hz, hzv⟩ := run_zero' h w
  have hvrl : VRL w g (ps.toList.map fun p => s.get p.2) (ps.map fun p => a.eval p.2) := ⟨by simp, fun i u hu => by
    simp only [List.getElem?_map, Option.map_eq_some_iff] at hu
    obtain ⟨x, hx, rfl⟩ := hu
    have hx' : ps[i]? = some x := by simpa using hx
    have : (ps.map fun p => a.eval p.2).getD i undef = a.eval x.2 := by simp [Array.getD_eq_getD_getElem?, hx']
    rw [this]
    exact get_rel hE _⟩
  obtain ⟨g2, c2, a2, hv2⟩ := (Cur.start hm).settleL hvrl
  generalize hvs : (settleL mem (ps.toList.map fun p => s.get p.2)) = p2 at *
  obtain ⟨m2, vs⟩ := p2
  have hzr : CRel w g2 ty.zero.cells z.cells := zero_crel hzv
  have hzsize : z.cells.size = ty.size := by rw [hzr.1, hzl]
  have harr0 : CRel w g2 ((List.replicate n ty.zero.cells).flatten) ((Array.range (n * ty.size)).map (fun i => z.cells[i % z.cells.size]!)) := by
    refine ⟨by simp [hzl], fun i u hu => ?_⟩
    rw [flatten_rep _ (by omega), hzl] at hu
    split at hu
    · rename_i hi
      have := hzr.2 _ u hu
      have e : ((Array.range (n * ty.size)).map (fun i => z.cells[i % z.cells.size]!)).getD i undef = z.cells.getD (i % ty.size) undef := by
        have hlt : i % ty.size < z.cells.size := by rw [hzsize]; exact Nat.mod_lt _ hsz
        simp only [Array.getD_eq_getD_getElem?, Array.getElem?_map, Array.getElem?_range, if_pos hi, Option.map_some, Option.getD_some, hzsize]
        rw [getElem!_pos z.cells _ hlt, Array.getElem?_eq_getElem hlt]
        rfl
      rw [e]
      exact this
    · cases hu
  have hlen : vs.length = ps.size := by have := hv2.1; simpa using this.symm
  obtain ⟨arr, hfill, hcr⟩ := fill_rel (pm := fun i => some (i * ty.size, ty.size)) (fun i p hp => hp) ((ps.toList.map (·.1)).zip vs) (ps.map fun p => (p.1, a.eval p.2)).toList _ _ _ harr0 (by simp [hlen]) (fun i p q hp hq => by
    obtain ⟨pi, pv⟩ := p
    rw [List.getElem?_zip_eq_some] at hp
    obtain ⟨hp1, hp2⟩ := hp
    simp only [List.getElem?_map, Option.map_eq_some_iff] at hp1
    obtain ⟨x, hx, hx1⟩ := hp1
    have hx' : ps[i]? = some x := by simpa using hx
    simp [hx'] at hq
    subst hq
    refine ⟨hx1, ?_⟩
    have := hv2.2 i pv hp2
    have e : (ps.map fun p => a.eval p.2).getD i undef = a.eval x.2 := by simp [Array.getD_eq_getD_getElem?, hx']
    rw [e] at this
    exact this) hf
  have hQ := fillV_mem (Q := fun u => u.plain = true ∧ u.one = true) _ _ _ (fun u hu => by
    simp only [List.mem_flatten, List.mem_replicate] at hu
    obtain ⟨l, ⟨_, rfl⟩, hu⟩ := hu
    exact ⟨cells_plain (ofValN_plain 3 hzv) u hu, ones_iff.1 hoz u hu⟩) (fun p hp u hu => by
    have hpv : p.2 ∈ vs := (List.of_mem_zip (a := p.1) (b := p.2) hp).2
    exact ⟨cells_plain (plainL_iff.1 hpl _ hpv) u hu, ones_iff.1 (onesL_iff.1 hon _ (List.mem_map.2 ⟨p.2, hpv, rfl⟩)) u hu⟩) hf
  have hcl : cs.length = n * ty.size := by rw [hQ.2]; simp [hzl]
  refine ⟨arr, g2, c2, ?_, by rw [hcr.1, hcl], hcl, fun i u hu => (hcr.2 i u hu).plain (hQ.1 u (mem_of_get hu)).1, fun i hi => ?_⟩
  · have hd := underlying_slice h0 hu
    simp only [execOp, ho, Instr.buildSlice, Sem.run_bind, run_underlying hd, Result.andThen_ok, run_sizeOf' h]
    rw [if_neg (by omega)]
    by_cases hn0 : n * ty.size = 0
    · rw [if_pos hn0]
      have hrow : ((Array.range (n * ty.size)).map (fun i => (#[] : Array Value)[i % (#[] : Array Value).size]!)) = ((Array.range (n * ty.size)).map (fun i => z.cells[i % z.cells.size]!)) := by simp [hn0]
      simp only [Sem.run_bind, Sem.run_pure, Result.andThen_ok, hrow]
      rw [hfill]
      simp [newRow]
    · rw [if_neg hn0]
      simp only [Sem.run_bind, Sem.run_pure, Result.andThen_ok, hz]
      rw [hfill]
      simp [newRow]
  · have hil : i < cs.length := by omega
    exact one_rel (hcr.2 i cs[i] (List.getElem?_eq_getElem hil)) (hQ.1 _ (List.getElem_mem hil)).2

theorem op_buildSlice {t e : TypeId} {n : Nat} {ty0 ty : Ty} (h0 : mkTy P t = some ty0) (hu : ty0.u = .slice e) (h : mkTy P e = some ty) (hsz : 0 < ty.size) (hzl : ty.zero.cells.length = ty.size) (hn : n ≤ 1000) (hns : n * ty.size ≤ 16777216)
    {s : St} {a : Act} (hE : ERel w g s.env a) (ps : Array (Nat × Operand)) (hpl : plainL (settleL mem (ps.toList.map fun p => s.get p.2)).2 = true) (hon : onesL ((settleL mem (ps.toList.map fun p => s.get p.2)).2.map V.cells) = true)
    (hoz : ones ty.zero.cells = true) {cs : List V}
    (hf : fillV (fun i => some (i * ty.size, ty.size)) ((List.replicate n ty.zero.cells).flatten) ((ps.toList.map (·.1)).zip (settleL mem (ps.toList.map fun p => s.get p.2)).2) = some cs) (o : Oper) (ho : o.op = .buildSlice t n ps) :
    OpOk w g mem ((execOp a.eval o).run P w) (.sl ((List.range n).map fun i => (cs.drop (i * ty.size)).take ty.size)) (settleL mem (ps.toList.map fun p => s.get p.2)).1 ∧
    OpOk w g mem ((execOp a.eval o).run P w) (.osl (settleL mem (ps.toList.map fun p => s.get p.2)).1.toks.length)
      { (settleL mem (ps.toList.map fun p => s.get p.2)).1 with toks := (settleL mem (ps.toList.map fun p => s.get p.2)).1.toks ++ [.live e ty.size ((List.range n).map fun i => (cs.drop (i * ty.size)).take ty.size)] } := by
  obtain ⟨arr, g2, c2, hrun, has, hcs, hdr, hone⟩ := buildSlice_row hm h0 hu h hsz hzl hn hns hE ps hpl hon hoz hf o ho
  generalize settleL mem (ps.toList.map fun p => s.get p.2) = p2 at *
  obtain ⟨m2, vs⟩ := p2
  dsimp only at *
  have hnew : Off m2 g2 w.heap.size := fun l hl he => by
    have := c2.ok.at_lt hl
    omega
  have hnC : ¬ g2.C w.heap.size := fun hc => absurd (c2.ok.com _ hc).1 (Nat.lt_irrefl _)
  have hxl : ((List.range n).map fun i => (cs.drop (i * ty.size)).take ty.size).length = n := by simp
  have hx4 : ∀ x ∈ ((List.range n).map fun i => (cs.drop (i * ty.size)).take ty.size), x.length = ty.size := fun x hx => by
    obtain ⟨i, hi⟩ := List.getElem?_of_mem hx
    obtain ⟨h1, rfl⟩ := chunk_get _ _ _ _ _ hi
    have := mul_le_chunk (sz := ty.size) h1
    simp; omega
  have hxu : ∀ i x j u, ((List.range n).map fun i => (cs.drop (i * ty.size)).take ty.size)[i]? = some x → x[j]? = some u → cs[i * ty.size + j]? = some u := fun i x j u hx hu => by
    obtain ⟨h1, rfl⟩ := chunk_get _ _ _ _ _ hx
    rw [List.getElem?_take] at hu
    split at hu
    · rw [List.getElem?_drop] at hu
      exact hu
    · cases hu
  constructor
  · have c3 := c2.world (w.alloc (.cells arr e)) (fun h => g2.C h ∨ h = w.heap.size) rfl rfl rfl (by simp) (fun h hh => .inl (heap_alloc_old w _ h hh)) (fun h hc => .inl hc) (fun h hc => by
      rcases hc with hc | rfl
      · exact .inl hc
      · exact .inr ⟨by simp, hnew, fun hh => absurd hh (Nat.lt_irrefl _)⟩)
    refine ⟨_, _, _, .inl hrun, .data ?_, c3⟩
    have := DR.sl (w := w.alloc (.cells arr e)) (C := fun h => g2.C h ∨ h = w.heap.size) ((List.range n).map fun i => (cs.drop (i * ty.size)).take ty.size) w.heap.size 0 n ty.size arr e (0, 0) (.inr rfl) (heap_alloc_new w _) (by simp) hx4 (by simp [has])
      (fun i x j u hx hu => by
        have := hdr _ u (hxu i x j u hx hu)
        simpa using this.mono (fun h hc => .inl hc) (fun h hc => heap_alloc_old w _ h (c2.ok.com h hc).1))
      (fun i hi => by simpa using hone i (by simpa using hi))
    simpa using this
  · have c3 := c2.draw (w.alloc (.cells arr e)) rfl rfl rfl (by simp) (fun h hh => heap_alloc_old w _ h hh)
    have c4 := c3.addTok (.slice (some ⟨w.heap.size, 0, none⟩) n n) w.heap.size ty.size (.live e ty.size ((List.range n).map fun i => (cs.drop (i * ty.size)).take ty.size)) ⟨hsz, by simp [Gh.addT], hx4, .inr ⟨n, arr, by simp [Gh.addT], by
        simp only [Gh.addT, if_true]
        exact heap_alloc_new w _, by simp, by simp only [maxLen]; omega, has, fun i x j u hx hu => (hdr _ u (hxu i x j u hx hu)).mono (fun _ h => h) (fun h hc => heap_alloc_old w _ h (c2.ok.com h hc).1), fun i hi => hone i (by simpa using hi)⟩⟩
      (fun _ _ => ⟨New.of_ge (Nat.le_refl _), hnC, hnew⟩)
    refine ⟨_, _, _, .inl hrun, ?_, c4⟩
    have e1 : (g2.addT (.slice (some ⟨w.heap.size, 0, none⟩) n n) w.heap.size ty.size).S m2.toks.length = .slice (some ⟨w.heap.size, 0, none⟩) n n := by simp [Gh.addT, c2.ok.nt]
    have := VR.osl (w := w.alloc (.cells arr e)) (g := g2.addT (.slice (some ⟨w.heap.size, 0, none⟩) n n) w.heap.size ty.size) m2.toks.length (by rw [← c2.ok.nt]; exact Nat.lt_succ_self _) ⟨_, _, _, e1⟩
    rw [e1] at this
    exact this
end
end Go.Vm

namespace Go.Vm
open Go

section
variable {P : Program} {w : World} {g : Gh} {mem : Mem} (hm : MemOk w g mem)
include hm

/-- What an append takes out of its source. -/
theorem src_rel {x : V} {ys : List (List V)} {sz : Nat} (hr : rdSl mem x = some ys) {mx : Value} (hx : VR w g x mx) (ha : allLen ys sz) : ∃ A c, mx = .slice A ys.length c ∧ (A = none → ys = []) ∧
    (∀ a, A = some a → ∃ news : List Value, news.length = ys.length * sz ∧ (∀ j u, news[j]? = some u → w.cell? (a.add j) = some u) ∧ (∀ u ∈ news, u.oneCell' = true) ∧
      ∀ i x j u, ys[i]? = some x → x[j]? = some u → DR w g.C u (news.getD (i * sz + j) undef)) := by
  have row : ∀ (b off : Nat) (arr : Array Value) (e : TypeId) (fr : Nat × Nat) (sz' : Nat), w.heap[b]? = some (.cells arr e fr) → (∀ x ∈ ys, x.length = sz') → off + ys.length * sz' ≤ arr.size →
      (∀ i x j u, ys[i]? = some x → x[j]? = some u → DR w g.C u (arr.getD (off + i * sz' + j) undef)) → (∀ i, i < ys.length * sz' → (arr.getD (off + i) undef).oneCell' = true) →
      ∃ news : List Value, news.length = ys.length * sz ∧ (∀ j u, news[j]? = some u → w.cell? ((⟨b, off, none⟩ : Addr).add j) = some u) ∧ (∀ u ∈ news, u.oneCell' = true) ∧
      ∀ i x j u, ys[i]? = some x → x[j]? = some u → DR w g.C u (news.getD (i * sz + j) undef) := by
    intro b off arr e fr sz' hb h4 h5 h6 h7
    by_cases hy : ys = []
    · subst hy
      exact ⟨[], by simp, by simp, by simp, by simp⟩
    have hs : sz' = sz := by
      obtain ⟨y, ys', rfl⟩ := List.exists_cons_of_ne_nil hy
      rw [← h4 y (by simp), ← ha y (by simp)]
    subst hs
    have hl : ((arr.toList.drop off).take (ys.length * sz')).length = ys.length * sz' := by simp; omega
    have hget : ∀ j, j < ys.length * sz' → ((arr.toList.drop off).take (ys.length * sz'))[j]? = some (arr.getD (off + j) undef) := fun j hj => by
      rw [List.getElem?_take, if_pos hj, List.getElem?_drop]
      have : off + j < arr.size := by omega
      simp [Array.getD_eq_getD_getElem?, this]
    refine ⟨(arr.toList.drop off).take (ys.length * sz'), hl, fun j u hu => ?_, fun u hu => ?_, fun i x j u hx hu => ?_⟩
    · have hj : j < ys.length * sz' := by rw [← hl]; exact (List.getElem?_eq_some_iff.1 hu).1
      rw [hget j hj] at hu
      rw [add_lit, cell_of_row w b (off + j) arr e fr hb]
      have : off + j < arr.size := by omega
      simpa [Array.getD_eq_getD_getElem?, this] using hu
    · obtain ⟨j, hj⟩ := List.getElem?_of_mem hu
      have hjl : j < ys.length * sz' := by rw [← hl]; exact (List.getElem?_eq_some_iff.1 hj).1
      rw [hget j hjl] at hj
      injection hj with hj
      rw [← hj]
      exact h7 j hjl
    · have hil : i < ys.length := (List.getElem?_eq_some_iff.1 hx).1
      have hjl : j < sz' := by rw [← h4 x (mem_of_get hx)]; exact (List.getElem?_eq_some_iff.1 hu).1
      have hlt : i * sz' + j < ys.length * sz' := by have := mul_le_chunk (sz := sz') hil; omega
      rw [List.getD_eq_getElem?_getD, hget _ hlt, Option.getD_some, ← Nat.add_assoc]
      exact h6 i x j u hx hu
  have dr : DR w g.C (.sl ys) mx → ∃ A c, mx = .slice A ys.length c ∧ (A = none → ys = []) ∧
    (∀ a, A = some a → ∃ news : List Value, news.length = ys.length * sz ∧ (∀ j u, news[j]? = some u → w.cell? (a.add j) = some u) ∧ (∀ u ∈ news, u.oneCell' = true) ∧
      ∀ i x j u, ys[i]? = some x → x[j]? = some u → DR w g.C u (news.getD (i * sz + j) undef)) := by
    intro h
    cases h with
    | sl0 A cap => exact ⟨A, cap, rfl, fun _ => rfl, fun a _ => ⟨[], by simp, by simp, by simp, by simp⟩⟩
    | sl _ b off cap sz' arr e fr h1 h2 h3 h4 h5 h6 h7 =>
      refine ⟨some ⟨b, off, none⟩, cap, rfl, fun h => (by cases h), fun a he => ?_⟩
      injection he with he
      subst he
      exact row b off arr e fr sz' h2 h4 h5 h6 h7
  unfold rdSl at hr
  split at hr
  · injection hr with hr
    subst hr
    exact dr hx.sl_inv
  · injection hr with hr
    subst hr
    rw [hx.nilsl_inv]
    exact ⟨none, 0, rfl, fun _ => rfl, fun a h => by cases h⟩
  · rename_i k
    obtain ⟨hxe, hk, _⟩ := hx.osl_inv
    split at hr
    · rename_i e sz' xs hkt
      injection hr with hr
      subst hr
      obtain ⟨t1, t2, t3, t4⟩ := hm.tok k _ hkt
      rcases t4 with ⟨hS, rfl⟩ | ⟨cap, arr, hS, hh, hcap, hmax, hsz, hdr, hone⟩
      · rw [hxe, hS]
        exact ⟨none, 0, rfl, fun _ => rfl, fun a h => by cases h⟩
      · rw [hxe, hS]
        refine ⟨some ⟨g.B k, 0, none⟩, cap, rfl, fun h => (by cases h), fun a he => ?_⟩
        injection he with he
        subst he
        exact row (g.B k) 0 arr e _ sz' hh t3 (by rw [hsz, Nat.zero_add]; exact Nat.mul_le_mul_right _ hcap) (by simpa using hdr) (by simpa using hone)
    · rename_i xs hkt
      injection hr with hr
      subst hr
      exact dr (by rw [hxe]; exact hm.tok k _ hkt)
    · cases hr
  · cases hr
omit hm in
theorem run_append_none' (t ty e : TypeId) (i : TypeInfo) (size : Nat) (ht : P.underlying t = some (.slice e)) (hi : P.info? e = some i) (v : Value) (n : Nat) (xs : List Value) (hown : w.ownsRow 0 e size v n xs) (c : Nat) :
    (Builtin.append_ #[t, t] ty #[v, .slice none 0 c]).run P w = .ok v w := by
  rcases hown.2 with ⟨rfl, rfl⟩ | ⟨g, cap, cur, rfl, _, _, hnc, _⟩
  · simp [Builtin.append_, run_underlying ht, sizeOf, typeInfo, hi, Builtin.lenOf, Builtin.firstCells]
  · simp [Builtin.append_, run_underlying ht, sizeOf, typeInfo, hi, Builtin.lenOf, Builtin.firstCells, hnc, storeCells]

/-- The cells that a live array holds, as the kit's laws speak of them. -/
theorem owns_of_tok {k : Nat} {e : TypeId} {sz : Nat} {xs : List (List V)} (hk : mem.toks[k]? = some (.live e sz xs)) : ∃ F : List Value, w.ownsRow 0 e sz (g.S k) xs.length F ∧ (g.S k = .slice none 0 0 ∨ (g.S k).ownBlock = some (g.B k)) ∧ (∀ u ∈ F, u.oneCell' = true) ∧
    ∀ i x j u, xs[i]? = some x → x[j]? = some u → DR w g.C u (F.getD (i * sz + j) undef) := by
  obtain ⟨t1, t2, t3, t4⟩ := hm.tok k _ hk
  rcases t4 with ⟨hS, rfl⟩ | ⟨cap, arr, hS, hh, hcap, hmax, hsz, hdr, hone⟩
  · exact ⟨[], ⟨by simp, .inl ⟨hS, rfl⟩⟩, .inl hS, by simp, by simp⟩
  · have hle : xs.length * sz ≤ arr.size := by rw [hsz]; exact Nat.mul_le_mul_right _ hcap
    refine ⟨arr.toList.take (xs.length * sz), ⟨by simp; omega, .inr ⟨g.B k, cap, arr, hS, Nat.zero_le _, hh, hcap, hmax, hsz, rfl⟩⟩, .inr (by rw [hS]; rfl), fun u hu => ?_, fun i x j u hx hu => ?_⟩
    · obtain ⟨j, hj⟩ := List.getElem?_of_mem hu
      rw [List.getElem?_take] at hj
      split at hj
      · rename_i hlt
        have := hone j hlt
        have hj' : arr[j]? = some u := by simpa using hj
        rwa [Array.getD_eq_getD_getElem?, hj', Option.getD_some] at this
      · cases hj
    have hil : i < xs.length := (List.getElem?_eq_some_iff.1 hx).1
    have hjl : j < sz := by rw [← t3 x (mem_of_get hx)]; exact (List.getElem?_eq_some_iff.1 hu).1
    have hlt : i * sz + j < xs.length * sz := by have := mul_le_chunk (sz := sz) hil; omega
    have := hdr i x j u hx hu
    rw [List.getD_eq_getElem?_getD, List.getElem?_take, if_pos hlt]
    simpa [Array.getD_eq_getD_getElem?] using this
omit hm in
/-- And back. -/
theorem tok_of_owns {w1 : World} {e : TypeId} {sz n : Nat} {v : Value} {F : List Value} {xs : List (List V)} {g2 : Gh} {k B : Nat} (h : w1.ownsRow 0 e sz v n F) (hsz : 0 < sz) (hx : ∀ x ∈ xs, x.length = sz) (hn : xs.length = n)
    (hF : ∀ u ∈ F, u.oneCell' = true) (hdr : ∀ i x j u, xs[i]? = some x → x[j]? = some u → DR w1 g2.C u (F.getD (i * sz + j) undef)) (hS : g2.S k = v) (hB : g2.B k = B) (hvB : v = .slice none 0 0 ∨ v.ownBlock = some B) (hZ : g2.Z k = sz) : TOk w1 g2 k (.live e sz xs) := by
  refine ⟨hsz, hZ, hx, ?_⟩
  subst hn
  rcases h.2 with ⟨hv, h0⟩ | ⟨b, cap, cur, hv, _, hh, hnc, hmax, hcs, htake⟩
  · exact .inl ⟨hS.trans hv, List.eq_nil_of_length_eq_zero h0⟩
  · have hbB : b = B := by
      rcases hvB with h | h
      · rw [hv] at h; cases h
      · rw [hv] at h; injection h
    subst hbB
    have hgetF : ∀ j, j < xs.length * sz → F.getD j undef = cur.getD j undef := fun j hj => by
      rw [← htake, List.getD_eq_getElem?_getD, List.getElem?_take, if_pos hj]
      simp [Array.getD_eq_getD_getElem?]
    refine .inr ⟨cap, cur, by rw [hS, hv, hB], by rw [hB]; exact hh, hnc, hmax, hcs, fun i x j u hx' hu => ?_, fun i hi => ?_⟩
    · have hil : i < xs.length := (List.getElem?_eq_some_iff.1 hx').1
      have hjl : j < sz := by rw [← hx x (mem_of_get hx')]; exact (List.getElem?_eq_some_iff.1 hu).1
      rw [← hgetF _ (by have := mul_le_chunk (sz := sz) hil; omega)]
      exact hdr i x j u hx' hu
    · rw [← hgetF i hi]
      have hl := h.1
      have : i < F.length := by omega
      rw [List.getD_eq_getElem?_getD, List.getElem?_eq_getElem this]
      exact hF _ (List.getElem_mem this)

/-- append's run, and where what comes out lies. -/
theorem append_run {t e : TypeId} {ty0 ty : Ty} (h0 : mkTy P t = some ty0) (hu : ty0.u = .slice e) (h : mkTy P e = some ty) (hsz : 0 < ty.size) (hzl : ty.zero.cells.length = ty.size) {v : Value} {n : Nat} {F : List Value} (hown : w.ownsRow 0 e ty.size v n F)
    {x : V} {ys : List (List V)} (hr : rdSl mem x = some ys) {mx : Value} (hx : VR w g x mx) (ha : allLen ys ty.size) (hb : (n + ys.length) * ty.bytes ≤ roomy) (hmax : n + ys.length ≤ 9223372036854775807) (tt : TypeId) :
    ∃ v' w' F', (Builtin.append_ #[t, t] tt #[v, mx]).run P w = .ok v' w' ∧ w'.ownsRow 0 e ty.size v' (n + ys.length) (F ++ F') ∧ w.grownBy w' v.ownBlock ∧ (v'.ownBlock = v.ownBlock ∨ v'.ownBlock = some w.heap.size) ∧ F'.length = ys.length * ty.size ∧
      (∀ u ∈ F', u.oneCell' = true) ∧ ∀ i x j u, ys[i]? = some x → x[j]? = some u → DR w g.C u (F'.getD (i * ty.size + j) undef) := by
  obtain ⟨A, c, hmx, hnil, hsome⟩ := src_rel hm hr hx ha
  obtain ⟨i, d, z, hi, hd, hz, hzv, hs, hby, ha', hu'⟩ := mkTy_inv h
  have hsl := underlying_slice h0 hu
  cases A with
  | none =>
    obtain rfl := hnil rfl
    refine ⟨v, w, [], ?_, by simpa using hown, ⟨rfl, rfl, rfl, Nat.le_refl _, fun _ _ _ => rfl⟩, .inl rfl, by simp, by simp, by simp⟩
    rw [hmx]
    exact run_append_none' t tt e i ty.size hsl hi v n F hown c
  | some ad =>
    obtain ⟨news, hl, hc, h1, hdr⟩ := hsome ad rfl
    have hzs : z.cells.size = ty.size := by rw [(zero_crel (w := w) (g := g) hzv).1, hzl]
    obtain ⟨v', w', hrun, hown', hgr, _, hat⟩ := run_append_own_at (P := P) w 0 t tt e i z ty.size ty.bytes hsl hi hz hs hby hzs hsz v n F hown ad ys.length c news hl hc h1 (by simp only [maxLen]; omega) hb (Nat.zero_le _)
    refine ⟨v', w', news, ?_, hown', hgr, hat, hl, h1, hdr⟩
    rw [hmx]
    exact hrun

theorem op_append_nil {t e : TypeId} {ty0 ty : Ty} (h0 : mkTy P t = some ty0) (hu : ty0.u = .slice e) (h : mkTy P e = some ty) (hsz : 0 < ty.size) (hzl : ty.zero.cells.length = ty.size) {a b : Operand} (ρ : Operand → Value) (ha : ρ a = .slice none 0 0)
    {x : V} {ys : List (List V)} (hr : rdSl mem x = some ys) (hx : VR w g x (ρ b)) (hal : allLen ys ty.size) (hb : ys.length * ty.bytes ≤ roomy) (hmax : ys.length ≤ 9223372036854775807) (o : Oper) (ho : o.op = .call ⟨.builtin .append, #[a, b], #[t, t]⟩) :
    OpOk w g mem ((execOp ρ o).run P w) (.osl mem.toks.length) { mem with toks := mem.toks ++ [.live e ty.size ys] } := by
  obtain ⟨v', w', F', hrun, hown, hgr, hat, hl, h1, hdr⟩ := append_run hm h0 hu h hsz hzl (v := .slice none 0 0) (n := 0) (F := []) ⟨by simp, .inl ⟨rfl, rfl⟩⟩ hr hx hal (by simpa using hb) (by simpa using hmax) o.type
  have hkeep : ∀ h, h < w.heap.size → w'.heap[h]? = w.heap[h]? := fun h hh => hgr.block h hh (by simp [Value.ownBlock])
  have c1 := (Cur.start hm).draw w' hgr.os hgr.tape hgr.output hgr.size hkeep
  have hvB : v' = .slice none 0 0 ∨ v'.ownBlock = some w.heap.size := by
    rcases hat with h | h
    · rcases hown.2 with ⟨h2, _⟩ | ⟨g', cap, cur, h2, _⟩
      · exact .inl h2
      · rw [h2] at h; simp [Value.ownBlock] at h
    · exact .inr h
  have htok : TOk w' (g.addT v' w.heap.size ty.size) g.nt (.live e ty.size ys) := tok_of_owns (n := 0 + ys.length) (B := w.heap.size) hown hsz hal (by simp) (by simpa using h1) (fun i x j u hx hu => by
    show DR w' g.C u _
    simpa using (hdr i x j u hx hu).mono (C' := g.C) (fun _ h => h) (fun h hc => hkeep h (hm.com h hc).1)) (by simp [Gh.addT]) (by simp [Gh.addT]) hvB (by simp [Gh.addT])
  have c2 := c1.addTok v' w.heap.size ty.size (.live e ty.size ys) htok (fun hn _ => ⟨New.of_ge (Nat.le_refl _), fun hc => absurd (hm.com _ hc).1 (Nat.lt_irrefl _), fun l hl he => by
    have := hm.at_lt hl
    omega⟩)
  refine ⟨v', w', _, .inl ?_, ?_, c2⟩
  · simp [execOp, ho, resolve, invoke, builtin, ha, hrun]
  · have e1 : (g.addT v' w.heap.size ty.size).S mem.toks.length = v' := by simp [Gh.addT, hm.nt]
    have hs : ∃ A n c, v' = .slice A n c := by
      rcases hown.2 with ⟨h2, _⟩ | ⟨g', cap, cur, h2, _⟩
      · exact ⟨_, _, _, h2⟩
      · exact ⟨_, _, _, h2⟩
    have := VR.osl (w := w') (g := g.addT v' w.heap.size ty.size) mem.toks.length (by rw [← hm.nt]; exact Nat.lt_succ_self _) (by rw [e1]; exact hs)
    rw [e1] at this
    exact this
theorem op_append_own {t e : TypeId} {ty0 ty : Ty} (h0 : mkTy P t = some ty0) (hu : ty0.u = .slice e) (h : mkTy P e = some ty) (hsz : 0 < ty.size) (hzl : ty.zero.cells.length = ty.size) {a b : Operand} (ρ : Operand → Value) {k : Nat} (ha : VR w g (.osl k) (ρ a))
    {xs : List (List V)} (hk : mem.toks[k]? = some (.live e ty.size xs)) {x : V} {ys : List (List V)} (hr : rdSl mem x = some ys) (hx : VR w g x (ρ b)) (hal : allLen ys ty.size) (hb : (xs.length + ys.length) * ty.bytes ≤ roomy)
    (hmax : xs.length + ys.length ≤ 9223372036854775807) (o : Oper) (ho : o.op = .call ⟨.builtin .append, #[a, b], #[t, t]⟩) :
    OpOk w g mem ((execOp ρ o).run P w) (.osl mem.toks.length) { mem with toks := setAt mem.toks k (fun _ => .dead) ++ [.live e ty.size (xs ++ ys)] } := by
  obtain ⟨hae, hkn, hSs⟩ := ha.osl_inv
  obtain ⟨F, hownF, hSB, hF1, hdrF⟩ := owns_of_tok hm hk
  obtain ⟨t1, t2, t3, t4⟩ := hm.tok k _ hk
  obtain ⟨v', w', F', hrun, hown, hgr, hat, hl, h1, hdr⟩ := append_run hm h0 hu h hsz hzl hownF hr hx hal hb hmax o.type
  have hFl : F.length = xs.length * ty.size := hownF.1
  have c0 := (Cur.start hm).kill k
  -- where the world turns nothing of ours lies any more
  have hkeep : ∀ h, h < w.heap.size → w'.heap[h]? = w.heap[h]? ∨ (Off { mem with toks := setAt mem.toks k fun _ => .dead } g h ∧ ¬ g.C h ∧ (h < w.heap.size → ¬ Off mem g h)) := fun h hh => by
    by_cases he : some h = (g.S k).ownBlock
    · rcases hSB with h2 | h2
      · rw [h2] at he; cases he
      · rw [h2] at he
        injection he with he
        subst he
        have hn : g.S k ≠ .slice none 0 0 := by intro hc; rw [hc] at h2; cases h2
        obtain ⟨q1, q2, q3⟩ := (Cur.start hm).kill_off hk hn
        exact .inr ⟨q1, q2, q3⟩
    · exact .inl (hgr.block h hh he)
  have hcom : ∀ h, g.C h → w'.heap[h]? = w.heap[h]? := fun h hc => by
    rcases hkeep h (hm.com h hc).1 with h2 | ⟨_, h2, _⟩
    · exact h2
    · exact absurd hc h2
  have c1 := c0.world w' g.C hgr.os hgr.tape hgr.output hgr.size hkeep (fun _ h => h) (fun _ h => .inl h)
  have hB : ∃ B, (v' = .slice none 0 0 ∨ v'.ownBlock = some B) ∧ (v' ≠ .slice none 0 0 → New w g mem B ∧ ¬ g.C B ∧ Off { mem with toks := setAt mem.toks k fun _ => .dead } g B) := by
    have hnew : New w g mem w.heap.size ∧ ¬ g.C w.heap.size ∧ Off { mem with toks := setAt mem.toks k fun _ => .dead } g w.heap.size :=
      ⟨New.of_ge (Nat.le_refl _), fun hc => absurd (hm.com _ hc).1 (Nat.lt_irrefl _), fun l hl he => by
        have := c0.ok.at_lt hl
        omega⟩
    rcases hat with h2 | h2
    · rcases hSB with h3 | h3
      · rw [h3] at h2
        refine ⟨0, .inl ?_, fun hn => absurd ?_ hn⟩ <;>
        · rcases hown.2 with ⟨h4, _⟩ | ⟨g', cap, cur, h4, _⟩
          · exact h4
          · rw [h4] at h2; simp [Value.ownBlock] at h2
      · rw [h3] at h2
        have hn : g.S k ≠ .slice none 0 0 := by intro hc; rw [hc] at h3; cases h3
        obtain ⟨q1, q2, q3⟩ := (Cur.start hm).kill_off hk hn
        exact ⟨g.B k, .inr h2, fun _ => ⟨q3, q2, q1⟩⟩
    · exact ⟨w.heap.size, .inr h2, fun _ => hnew⟩
  obtain ⟨B, hvB, hBn⟩ := hB
  have htok : TOk w' (({ g with C := g.C } : Gh).addT v' B ty.size) g.nt (.live e ty.size (xs ++ ys)) := by
    refine tok_of_owns (n := xs.length + ys.length) (B := B) hown hsz (fun x hx => ?_) (by simp) (fun u hu => ?_) (fun i x j u hx hu => ?_) (by simp [Gh.addT]) (by simp [Gh.addT]) hvB (by simp [Gh.addT])
    · rcases List.mem_append.1 hx with hx | hx
      · exact t3 x hx
      · exact hal x hx
    · rcases List.mem_append.1 hu with hu | hu
      · exact hF1 u hu
      · exact h1 u hu
    · have hjl : j < x.length := (List.getElem?_eq_some_iff.1 hu).1
      by_cases hi : i < xs.length
      · rw [List.getElem?_append_left hi] at hx
        have hx4 := t3 x (mem_of_get hx)
        have hlt : i * ty.size + j < F.length := by have := mul_le_chunk (sz := ty.size) hi; omega
        rw [List.getD_eq_getElem?_getD, List.getElem?_append_left hlt, ← List.getD_eq_getElem?_getD]
        exact (hdrF i x j u hx hu).mono (fun _ h => h) hcom
      · rw [List.getElem?_append_right (by omega)] at hx
        have hd := (hdr _ x j u hx hu).mono (C' := g.C) (w' := w') (fun _ h => h) hcom
        have e1 : i * ty.size + j = F.length + ((i - xs.length) * ty.size + j) := by
          rw [hFl]
          have : i = xs.length + (i - xs.length) := by omega
          calc i * ty.size + j = (xs.length + (i - xs.length)) * ty.size + j := by rw [← this]
            _ = _ := by rw [Nat.add_mul]; omega
        rw [e1, List.getD_eq_getElem?_getD, List.getElem?_append_right (by omega), Nat.add_sub_cancel_left, ← List.getD_eq_getElem?_getD]
        exact hd
  have c2 := c1.addTok v' B ty.size (.live e ty.size (xs ++ ys)) htok (fun hn _ => hBn hn)
  refine ⟨v', w', _, .inl ?_, ?_, c2⟩
  · simp [execOp, ho, resolve, invoke, builtin, hae, hrun]
  · have e1 : (({ g with C := g.C } : Gh).addT v' B ty.size).S mem.toks.length = v' := by simp [Gh.addT, hm.nt]
    have hs : ∃ A n c, v' = .slice A n c := by
      rcases hown.2 with ⟨h2, _⟩ | ⟨g', cap, cur, h2, _⟩
      · exact ⟨_, _, _, h2⟩
      · exact ⟨_, _, _, h2⟩
    have := VR.osl (w := w') (g := ({ g with C := g.C } : Gh).addT v' B ty.size) mem.toks.length (by simp only [Gh.addT]; rw [← hm.nt]; exact Nat.lt_succ_self _) (by rw [e1]; exact hs)
    rw [e1] at this
    exact this
end
end Go.Vm

namespace Go.Vm
open Go

def toVal : V → Value
  | .int k n => .int k n
  | .bool b => .bool b
  | .str s => .string s
  | _ => undef
def scal : V → Bool
  | .int _ _ | .bool _ | .str _ => true
  | _ => false
theorem scal_rel {w : World} {g : Gh} {v : V} (h : scal v = true) : VR w g v (toVal v) := by
  cases v <;> simp only [scal, reduceCtorEq] at h <;> first | contradiction | exact .data (.int _ _) | exact .data (.bool _) | exact .data (.str _)
theorem run_intBin {P : Program} {w : World} {op : BinOp} {k : IntKind} {a b : Int} {p : Prop} {v : V} (h : intBin op k a b = some (p, v)) (hp : p) (h1 : op ≠ .shl) (h2 : op ≠ .shr) (t : TypeId) :
    (binOp op t (.int k a) (.int k b)).run P w = .ok (toVal v) w ∧ scal v = true := by
  cases op <;> simp only [intBin, Option.some.injEq, Prod.mk.injEq, reduceCtorEq] at h <;> try contradiction
  all_goals
    obtain ⟨rfl, rfl⟩ := h
    refine ⟨?_, rfl⟩
    first
      | (simp only [binOp, ne_eq, not_true_eq_false, if_false, Op.intArith, toVal]; rfl)
      | (simp only [binOp, ne_eq, not_true_eq_false, if_false, Op.intBits, toVal]; rfl)
      | (simp only [binOp, ne_eq, not_true_eq_false, if_false, Op.intCmp, toVal]; rfl)
      | (simp only [binOp, ne_eq, not_true_eq_false, if_false, Op.intDiv, toVal, if_neg hp]; rfl)
theorem run_strBin {P : Program} {w : World} {op : BinOp} {a b : ByteArray} {p : Prop} {v : V} (h : strBin op a b = some (p, v)) (hp : p) (t : TypeId) :
    (binOp op t (.string a) (.string b)).run P w = .ok (toVal v) w ∧ scal v = true := by
  cases op <;> simp only [strBin, Option.some.injEq, Prod.mk.injEq, reduceCtorEq] at h <;> try contradiction
  all_goals
    obtain ⟨rfl, rfl⟩ := h
    refine ⟨?_, rfl⟩
    first
      | rfl
      | (simp only [binOp, Op.stringOp, toVal]; rw [if_neg (by omega)]; rfl)
theorem run_eqBool {P : Program} {w : World} {t : TypeId} (hu : P.underlying t = some .bool) (a b : Bool) : (Op.equal t (.bool a) (.bool b)).run P w = .ok (a == b) w := by
  show (Op.equalIn (9999 + 1) t _ _).run P w = _
  generalize 9999 = n
  simp only [Op.equalIn, Sem.run_bind, run_underlying hu, Result.andThen_ok, Sem.run_pure]

section
variable {P : Program} {w : World} {g : Gh} {mem : Mem} (hm : MemOk w g mem)
include hm

theorem op_bin {op : BinOp} {t t' : TypeId} {x y : Operand} (ρ : Operand → Value) {vx vy : V} (hx : VR w g vx (ρ x)) (hy : VR w g vy (ρ y)) {p : Prop} {v : V} (h : binV P op t vx vy = some (p, v)) (hp : p) (o : Oper) (ho : o.op = .binOp op t x y t') :
    OpOk w g mem ((execOp ρ o).run P w) v mem := by
  have hg : (eqGuard op t x y (ρ x) (ρ y)).run P w = .ok () w ∧ ∃ mv, (binOp op t (ρ x) (ρ y)).run P w = .ok mv w ∧ VR w g v mv := by
    unfold binV at h
    split at h
    · rename_i k a k' b
      rw [hx.int_inv, hy.int_inv]
      refine ⟨by cases op <;> simp [eqGuard], ?_⟩
      split at h
      · obtain ⟨rfl, rfl⟩ : (0 ≤ b) = p ∧ V.int k (k.wrap (a * 2 ^ (min b.toNat k.bits))) = v := by simpa using h
        refine ⟨_, ?_, .data (.int _ _)⟩
        simp only [binOp, Op.shift]
        rw [if_neg (by omega)]
        rfl
      · obtain ⟨rfl, rfl⟩ : (0 ≤ b) = p ∧ V.int k (a.fdiv (2 ^ (min b.toNat k.bits))) = v := by simpa using h
        refine ⟨_, ?_, .data (.int _ _)⟩
        simp only [binOp, Op.shift]
        rw [if_neg (by omega)]
        rfl
      · rename_i n1 n2
        split at h
        · rename_i hk
          subst hk
          have hi : intBin op k a b = some (p, v) := by
            split at h
            · split at h
              · exact h
              · cases h
            · split at h
              · exact h
              · cases h
            · exact h
          obtain ⟨h1, h2⟩ := run_intBin (P := P) (w := w) hi hp (by rintro rfl; exact n1 rfl) (by rintro rfl; exact n2 rfl) t
          exact ⟨_, h1, scal_rel h2⟩
        · cases h
    · rename_i a b
      rw [hx.str_inv, hy.str_inv]
      refine ⟨by cases op <;> simp [eqGuard], ?_⟩
      obtain ⟨h1, h2⟩ := run_strBin (P := P) (w := w) h hp t
      exact ⟨_, h1, scal_rel h2⟩
    · rename_i a b
      rw [hx.bool_inv, hy.bool_inv]
      refine ⟨by cases op <;> simp [eqGuard], ?_⟩
      split at h
      · rename_i ty hty
        have hu := underlying_bool hty rfl
        split at h
        · simp only [Option.some.injEq, Prod.mk.injEq] at h
          obtain ⟨_, rfl⟩ := h
          refine ⟨.bool (a == b), ?_, .data (.bool _)⟩
          simp only [binOp, Sem.run_bind, run_eqBool hu, Result.andThen_ok, Sem.run_pure]
        · simp only [Option.some.injEq, Prod.mk.injEq] at h
          obtain ⟨_, rfl⟩ := h
          refine ⟨.bool (!(a == b)), ?_, .data (.bool _)⟩
          simp only [binOp, Sem.run_bind, run_eqBool hu, Result.andThen_ok, Sem.run_pure]
        · cases h
      · cases h
    · cases h
  obtain ⟨h1, mv, h2, h3⟩ := hg
  exact .same hm (mv := mv) (by simp [execOp, ho, h1, h2]) h3

theorem op_un {op : UnOp} {t : TypeId} {x : Operand} (ρ : Operand → Value) {vx v : V} (hx : VR w g vx (ρ x)) (h : unV op vx = some v) (o : Oper) (ho : o.op = .unOp op t x) : OpOk w g mem ((execOp ρ o).run P w) v mem := by
  unfold unV at h
  split at h
  · rename_i b
    have := hx.bool_inv
    split at h
    · injection h with h
      subst h
      exact .same hm (mv := .bool !b) (by simp [execOp, ho, this, Op.unary]) (.data (.bool _))
    · cases h
  · rename_i k n
    have := hx.int_inv
    split at h
    · injection h with h
      subst h
      exact .same hm (mv := .int k (k.wrap (0 - n))) (by simp [execOp, ho, this, Op.unary, Op.intArith]) (.data (.int _ _))
    · injection h with h
      subst h
      refine .same hm (mv := .int k (k.wrap (BitVec.ofInt k.bits (if k.signed then -1 else k.max) ^^^ BitVec.ofInt k.bits n).toNat)) ?_ (.data (.int _ _))
      simp only [execOp, ho, this, Op.unary, Op.intBits]
      rfl
    · cases h
  · cases h

theorem op_move {x : Operand} (ρ : Operand → Value) {vx : V} (hx : VR w g vx (ρ x)) (o : Oper) (ho : o.op = .move x ∨ o.op = .assign x) : OpOk w g mem ((execOp ρ o).run P w) vx mem := by
  refine .same hm (mv := ρ x) ?_ hx
  rcases ho with ho | ho <;> simp [execOp, ho]

theorem op_nilCheck {x : Operand} (ρ : Operand → Value) {vx : V} (hx : VR w g vx (ρ x)) (h : (∃ b o, vx = .ptr b o) ∨ (∃ k i o, vx = .eptr k i o) ∨ ∃ cs, vx = .iptr cs) (o : Oper) (ho : o.op = .nilCheck x) : OpOk w g mem ((execOp ρ o).run P w) vx mem := by
  have : ∃ a, ρ x = .pointer (some a) := by
    rcases h with ⟨b, o, rfl⟩ | ⟨k, i, o, rfl⟩ | ⟨cs, rfl⟩
    · exact ⟨_, hx.ptr_inv.1⟩
    · exact ⟨_, hx.eptr_inv.1⟩
    · have := hx.iptr_inv
      generalize ρ x = mx at this
      cases this
      exact ⟨_, rfl⟩
  obtain ⟨a, ha⟩ := this
  rw [ha] at hx
  exact .same hm (mv := .pointer (some a)) (by simp [execOp, ho, ha]) hx

theorem op_makeFunc {f : Fn} {fs cs : Array Operand} {s : St} {a : Act} (hE : ERel w g s.env a) (o : Oper) (ho : o.op = .makeFunc f fs cs) : OpOk w g mem ((execOp a.eval o).run P w) (.fn f (fs.toList.map s.get) (cs.toList.map s.get)) mem := by
  have lst : ∀ (xs : Array Operand) (i : Nat) (u : V), (xs.toList.map s.get)[i]? = some u → VR w g u ((xs.map a.eval).getD i undef) := fun xs i u hu => by
    simp only [List.getElem?_map, Option.map_eq_some_iff] at hu
    obtain ⟨x, hx, rfl⟩ := hu
    have hx' : xs[i]? = some x := by simpa using hx
    have : (xs.map a.eval).getD i undef = a.eval x := by simp [Array.getD_eq_getD_getElem?, hx']
    rw [this]
    exact get_rel hE _
  exact .same hm (mv := .func f (fs.map a.eval) (cs.map a.eval)) (by simp [execOp, ho, Instr.makeFunc]) (.fn f _ _ _ _ (by simp) (by simp) (lst fs) (lst cs))

theorem op_extract {x : Operand} {i : Nat} (ρ : Operand → Value) {vs : List V} (hx : VR w g (.tuple vs) (ρ x)) {v : V} (hv : vs[i]? = some v) (o : Oper) (ho : o.op = .extract x i) : OpOk w g mem ((execOp ρ o).run P w) v mem := by
  obtain ⟨A, hA, hs, hr⟩ := hx.tuple_inv
  have hi : i < A.size := by rw [hs]; exact (List.getElem?_eq_some_iff.1 hv).1
  refine .same hm (mv := A.getD i undef) ?_ (hr i v hv)
  simp [execOp, ho, hA, Instr.extract, Array.getD_eq_getD_getElem?, hi]

theorem op_makeInterface {t : TypeId} {ty : Ty} (h : mkTy P t = some ty) (hni : ty.u ≠ .other) {x : Operand} (ρ : Operand → Value) {v : V} (hx : VR w g v (ρ x)) (o : Oper) (ho : o.op = .makeInterface t x) : OpOk w g mem ((execOp ρ o).run P w) (.iface t v) mem := by
  obtain ⟨i, d, z, hi, hd, hz, hzv, hs, hb, ha, hu⟩ := mkTy_inv h
  have hc : P.concrete t = true := by
    unfold Program.concrete
    rw [hd]
    rw [hu] at hni
    cases d <;> first | rfl | exact absurd rfl hni
  refine .same hm (mv := .iface t (ρ x)) ?_ (.iface t v _ hx)
  simp [execOp, ho, run_makeInterface w t (ρ x) hc]

theorem op_fieldAddr {t ft : TypeId} {ty fty : Ty} (h : mkTy P t = some ty) {fs : List (Nat × TypeId)} (hu : ty.u = .struct fs) {f off : Nat} (hf : fs[f]? = some (off, ft)) (hft : mkTy P ft = some fty) (hz : fty.size ≠ 0) {x : Operand} (ρ : Operand → Value)
    {vx v : V} (hx : VR w g vx (ρ x)) (hv : (∃ b o, vx = .ptr b o ∧ v = .ptr b (o + off)) ∨ (∃ cs, vx = .iptr cs ∧ off ≤ cs.length ∧ v = .iptr (cs.drop off)) ∨ ∃ k i o, vx = .eptr k i o ∧ v = .eptr k i (o + off)) (o : Oper) (ho : o.op = .fieldAddr t x f) :
    OpOk w g mem ((execOp ρ o).run P w) v mem := by
  obtain ⟨fields, hd, hfld⟩ := underlying_struct h hu
  obtain ⟨fd, hfd, rfl, rfl⟩ := hfld f off ft hf
  have key : ∀ (b o' : Nat), ρ x = .pointer (some ⟨b, o', none⟩) → (execOp ρ o).run P w = .ok (.value (.pointer (some ⟨b, o' + fd.offset, none⟩))) w := fun b o' he => by
    simp [execOp, ho, Instr.fieldAt, run_underlying hd, hfd, he, Instr.sureAddr, fieldPlace, run_sizeOf' hft, hz, add_lit]
  rcases hv with ⟨b, o', rfl, rfl⟩ | ⟨cs, rfl, hle, rfl⟩ | ⟨k, i, o', rfl, rfl⟩
  · obtain ⟨he, hb⟩ := hx.ptr_inv
    exact .same hm (key _ _ he) (.ptr b _ hb)
  · have hx' := hx.iptr_inv
    generalize hmx : ρ x = mx at hx'
    cases hx' with
    | iptr _ b o' arr e fr h1 h2 h5 h6 =>
      refine .same hm (key _ _ hmx) (.data ?_)
      refine .iptr _ b _ arr e fr h1 h2 (by simp; omega) fun j u hu => ?_
      rw [List.getElem?_drop] at hu
      have := h6 _ u hu
      rwa [← Nat.add_assoc] at this
  · obtain ⟨he, hk⟩ := hx.eptr_inv
    refine .same hm (key _ _ he) ?_
    rw [Nat.add_assoc]
    exact .eptr k i _ hk

theorem op_field {t ft : TypeId} {ty fty : Ty} (h : mkTy P t = some ty) {fs : List (Nat × TypeId)} (hu : ty.u = .struct fs) {f off : Nat} (hf : fs[f]? = some (off, ft)) (hft : mkTy P ft = some fty) {x : Operand} (ρ : Operand → Value)
    {cs : List V} (hx : VR w g (.agg cs) (ρ x)) {v : V} (hp : part fty cs off = some v) (o : Oper) (ho : o.op = .field t x f) : OpOk w g mem ((execOp ρ o).run P w) v mem := by
  obtain ⟨fields, hd, hfld⟩ := underlying_struct h hu
  obtain ⟨fd, hfd, rfl, rfl⟩ := hfld f off ft hf
  obtain ⟨A, hA, hs, hr⟩ := hx.agg_inv
  have hpr := part_rel hp A 0 (by omega) (by simpa using hr)
  simp only [Nat.zero_add] at hpr
  have run : ∀ mv, (Go.part fd.type A fd.offset).run P w = .ok mv w → (execOp ρ o).run P w = .ok (.value mv) w := fun mv hmv => by
    simp [execOp, ho, hA, Instr.field, run_underlying hd, hfd, asAgg, hmv]
  cases hagg : fty.agg with
  | true =>
    refine .same hm (run _ ?_) (hpr.1 hagg).2
    simp [Go.part, run_isAgg' hft w, hagg, run_sizeOf' hft w]
  | false =>
    obtain ⟨h1, h2⟩ := hpr.2 hagg
    refine .same hm (run _ ?_) h2
    simp [Go.part, run_isAgg' hft w, hagg, Array.getD_eq_getD_getElem?, h1]


omit hm in
/-- The address of an element. -/
theorem op_indexAddr_slice {t e : TypeId} {ty0 ty : Ty} (h0 : mkTy P t = some ty0) (hu : ty0.u = .slice e) (h : mkTy P e = some ty) {x i : Operand} (ρ : Operand → Value) {k : IntKind} {n : Int} (hi : ρ i = .int k n) {a : Addr} {len cap : Nat} (hx : ρ x = .slice (some a) len cap)
    (h1 : 0 ≤ n) (h2 : n < len) (o : Oper) (ho : o.op = .indexAddr t x i) : (execOp ρ o).run P w = .ok (.value (.pointer (some (a.add (n.toNat * ty.size))))) w := by
  have hd := underlying_slice h0 hu
  simp [execOp, ho, Instr.indexAt, hi, hx, asIntOf, run_underlying hd, h1, h2, run_sizeOf' h]
omit hm in
theorem iptr_of_sl {xs : List (List V)} {sz : Nat} {mx : Value} (hx : DR w g.C (.sl xs) mx) {i : Nat} (hi : i < xs.length) (hl : ((xs[i]?).getD []).length = sz) (hz : 0 < sz) :
    ∃ b off cap, mx = .slice (some ⟨b, off, none⟩) xs.length cap ∧ DR w g.C (.iptr ((xs[i]?).getD [])) (.pointer (some ⟨b, off + i * sz, none⟩)) := by
  cases hx with
  | sl0 A cap => simp at hi
  | sl _ b off cap sz' arr e fr h1 h2 h3 h4 h5 h6 h7 =>
    have hxi : xs[i]? = some xs[i] := List.getElem?_eq_getElem hi
    rw [hxi, Option.getD_some] at hl ⊢
    have hs : sz' = sz := by rw [← hl]; exact (h4 _ (List.getElem_mem hi)).symm
    subst hs
    have := mul_le_chunk (sz := sz') hi
    exact ⟨b, off, cap, rfl, .iptr _ b _ arr e fr h1 h2 (by omega) fun j u hu => h6 i _ j u hxi hu⟩
theorem op_indexAddr {t : TypeId} {x i : Operand} (ρ : Operand → Value) {vx vi : V} (hx : VR w g vx (ρ x)) (hi : VR w g vi (ρ i)) {p : Prop} {v : V} (h : indexAddrV P mem t vx vi = some (p, v)) (hp : p) (o : Oper) (ho : o.op = .indexAddr t x i) :
    OpOk w g mem ((execOp ρ o).run P w) v mem := by
  cases hmk : mkTy P t with
  | none => simp [indexAddrV, hmk] at h
  | some ty0 =>
  cases vi with
  | int k n =>
    have hie := hi.int_inv
    obtain ⟨u, size, bytes, agg, zero⟩ := ty0
    simp only [indexAddrV, hmk] at h
    cases u with
    | slice e =>
      simp only at h
      cases hty : mkTy P e with
      | none => simp [hty] at h
      | some ty =>
        simp only [hty] at h
        -- a slice of plain data
        have plainCase : ∀ (xs : List (List V)), DR w g.C (.sl xs) (ρ x) → 0 < ty.size → (0 ≤ n ∧ n < xs.length ∧ ((xs[n.toNat]?).getD []).length = ty.size) → OpOk w g mem ((execOp ρ o).run P w) (.iptr ((xs[n.toNat]?).getD [])) mem := by
          intro xs hdr hz ⟨q1, q2, q3⟩
          obtain ⟨b, off, cap, hmx, hip⟩ := iptr_of_sl hdr (i := n.toNat) (by omega) q3 hz
          have := op_indexAddr_slice (w := w) hmk rfl hty ρ hie hmx q1 q2 o ho
          rw [add_lit] at this
          exact .same hm this (.data hip)
        split at h
        · cases h
        rename_i hz
        have hz : 0 < ty.size := by omega
        cases vx with
        | sl xs =>
          simp only [Option.some.injEq, Prod.mk.injEq] at h
          obtain ⟨rfl, rfl⟩ := h
          exact plainCase xs hx.sl_inv hz hp
        | osl k =>
          obtain ⟨hxe, hk, _⟩ := hx.osl_inv
          simp only at h
          cases ht : mem.toks[k]? with
          | none => simp [ht] at h
          | some tk =>
            simp only [ht] at h
            have htk := hm.tok k _ ht
            cases tk with
            | live e' sz xs =>
              simp only at h
              split at h
              · rename_i hsz
                simp only [Option.some.injEq, Prod.mk.injEq] at h
                obtain ⟨rfl, rfl⟩ := h
                obtain ⟨q1, q2⟩ := hp
                obtain ⟨t1, t2, t3, t4⟩ := htk
                rcases t4 with ⟨_, rfl⟩ | ⟨cap, arr, hS, hh, hcap, hmax, hsz', hdr, hone⟩
                · simp at q2; omega
                · rw [hS] at hxe
                  have := op_indexAddr_slice (w := w) hmk rfl hty ρ hie hxe q1 q2 o ho
                  rw [add_lit, Nat.zero_add, ← hsz, ← t2] at this
                  exact .same hm this (by simpa using VR.eptr (w := w) (g := g) k n.toNat 0 hk)
              · cases h
            | froz xs =>
              simp only [Option.some.injEq, Prod.mk.injEq] at h
              obtain ⟨rfl, rfl⟩ := h
              exact plainCase xs (by rw [hxe]; exact htk) hz hp
            | dead => simp at h
        | _ => simp at h
    | array m e =>
      cases vx with
      | ptr b off =>
        simp only at h
        cases hty : mkTy P e with
        | none => simp [hty] at h
        | some ty =>
          simp only [hty] at h
          split at h
          · cases h
          rename_i hz
          simp only [Option.some.injEq, Prod.mk.injEq] at h
          obtain ⟨rfl, rfl⟩ := h
          obtain ⟨q1, q2⟩ := hp
          obtain ⟨hxe, hb⟩ := hx.ptr_inv
          have hd := underlying_array hmk rfl
          refine .same hm (mv := .pointer (some ⟨g.m b, off + n.toNat * ty.size, none⟩)) ?_ (.ptr b _ hb)
          simp [execOp, ho, Instr.indexAt, hie, hxe, asIntOf, run_underlying hd, Instr.sureAddr, q1, q2, run_sizeOf' hty, add_lit]
      | _ => simp at h
    | _ => simp at h
  | _ => cases vx <;> simp [indexAddrV, hmk] at h
end
end Go.Vm

namespace Go.Vm
open Go

theorem byteAt_eq (s : ByteArray) (i : Nat) (h : i < s.size) : s[i]? = some (s[i]'h) := by simp [h]
section
variable {P : Program} {w : World} {g : Gh} {mem : Mem} (hm : MemOk w g mem)
include hm

theorem op_index {t : TypeId} {x i : Operand} (ρ : Operand → Value) {vx vi : V} (hx : VR w g vx (ρ x)) (hi : VR w g vi (ρ i)) {p : Prop} {v : V} (h : indexV P t vx vi = some (p, v)) (hp : p) (o : Oper) (ho : o.op = .index t x i) :
    OpOk w g mem ((execOp ρ o).run P w) v mem := by
  cases hmk : mkTy P t with
  | none => simp [indexV, hmk] at h
  | some ty0 =>
  cases vi with
  | int k n =>
    have hie := hi.int_inv
    obtain ⟨u, size, bytes, agg, zero⟩ := ty0
    simp only [indexV, hmk] at h
    cases u with
    | string =>
      cases vx with
      | str s =>
        simp only [Option.some.injEq, Prod.mk.injEq] at h
        obtain ⟨rfl, rfl⟩ := h
        obtain ⟨q1, q2⟩ := hp
        have hlt : n.toNat < s.size := by omega
        refine .same hm (mv := .int .u8 (byteAt s n.toNat)) ?_ (.data (.int _ _))
        simp [execOp, ho, Instr.index, hie, hx.str_inv, asIntOf, run_underlying (underlying_string hmk rfl), q1, byteAt_eq s _ hlt, byteAt, hlt]
      | _ => simp at h
    | array m e =>
      cases vx with
      | agg cs =>
        simp only at h
        cases hty : mkTy P e with
        | none => simp [hty] at h
        | some ty =>
          simp only [hty, Option.some.injEq, Prod.mk.injEq] at h
          obtain ⟨rfl, rfl⟩ := h
          obtain ⟨q1, q2, q3⟩ := hp
          obtain ⟨A, hA, hs, hr⟩ := hx.agg_inv
          obtain ⟨u, hu⟩ := Option.isSome_iff_exists.1 q3
          rw [hu, Option.getD_some]
          have hpr := part_rel hu A 0 (by omega) (by simpa using hr)
          simp only [Nat.zero_add] at hpr
          have run : ∀ mv, (Go.part e A (n.toNat * ty.size)).run P w = .ok mv w → (execOp ρ o).run P w = .ok (.value mv) w := fun mv hmv => by
            simp [execOp, ho, Instr.index, hie, hA, asIntOf, run_underlying (underlying_array hmk rfl), q1, q2, run_sizeOf' hty, hmv]
          cases hagg : ty.agg with
          | true =>
            refine .same hm (run _ ?_) (hpr.1 hagg).2
            simp [Go.part, run_isAgg' hty w, hagg, run_sizeOf' hty w]
          | false =>
            obtain ⟨h1, h2⟩ := hpr.2 hagg
            refine .same hm (run _ ?_) h2
            simp [Go.part, run_isAgg' hty w, hagg, Array.getD_eq_getD_getElem?, h1]
      | _ => simp at h
    | _ => simp at h
  | _ => cases vx <;> simp [indexV, hmk] at h


omit hm in
/-- A part of plain data is plain data. -/
theorem slice_dr {xs : List (List V)} {sz : Nat} {mx : Value} (hx : DR w g.C (.sl xs) mx) (ha : allLen xs sz) {l h : Nat} (h1 : l ≤ h) (h2 : h ≤ xs.length) : ∃ A cap, mx = .slice A xs.length cap ∧ xs.length ≤ cap ∧
    ∀ c, h ≤ c → DR w g.C (.sl ((xs.take h).drop l)) (.slice (if c = l then A else A.map fun a => a.add (l * sz)) (h - l) (c - l)) := by
  cases hx with
  | sl0 A cap =>
    refine ⟨A, cap, rfl, Nat.zero_le _, fun c hc => ?_⟩
    simp only [List.length_nil] at h2
    obtain rfl : h = 0 := by omega
    obtain rfl : l = 0 := by omega
    exact .sl0 _ _
  | sl _ b off cap sz' arr e fr q1 q2 q3 q4 q5 q6 q7 =>
    refine ⟨_, cap, rfl, q3, fun c hc => ?_⟩
    have hlen : ((xs.take h).drop l).length = h - l := by simp; omega
    by_cases hlh : l = h
    · subst hlh
      have : (xs.take l).drop l = [] := List.drop_eq_nil_of_le (by simp; omega)
      rw [this, Nat.sub_self]
      exact .sl0 _ _
    · rw [if_neg (by omega), Option.map_some, add_lit]
      have hs : sz' = sz := by
        have hne : 0 < xs.length := by omega
        rw [← q4 xs[0] (List.getElem_mem hne), ha xs[0] (List.getElem_mem hne)]
      subst hs
      have hget : ∀ i x, ((xs.take h).drop l)[i]? = some x → xs[l + i]? = some x ∧ i < h - l := fun i x hx => by
        have hi := (List.getElem?_eq_some_iff.1 hx).1
        rw [List.getElem?_drop, List.getElem?_take] at hx
        split at hx
        · exact ⟨hx, by omega⟩
        · cases hx
      have hmul : off + l * sz' + (h - l) * sz' ≤ off + xs.length * sz' := by
        have : l * sz' + (h - l) * sz' = h * sz' := by rw [← Nat.add_mul]; congr 1; omega
        have := Nat.mul_le_mul_right sz' h2
        omega
      have := DR.sl (w := w) (C := g.C) ((xs.take h).drop l) b (off + l * sz') (c - l) sz' arr e fr q1 q2 (by rw [hlen]; omega) (fun x hx => by
          obtain ⟨i, hi⟩ := List.getElem?_of_mem hx
          exact q4 x (mem_of_get (hget i x hi).1)) (by rw [hlen]; omega) (fun i x j u hx hu => by
          have := q6 (l + i) x j u (hget i x hx).1 hu
          have e1 : off + l * sz' + i * sz' + j = off + (l + i) * sz' + j := by rw [Nat.add_mul]; omega
          rw [e1]
          exact this) (fun i hi => by
          rw [hlen] at hi
          have e1 : off + l * sz' + i = off + (l * sz' + i) := by omega
          rw [e1]
          refine q7 _ ?_
          have : l * sz' + (h - l) * sz' = h * sz' := by rw [← Nat.add_mul]; congr 1; omega
          have := Nat.mul_le_mul_right sz' h2
          omega)
      rw [hlen] at this
      exact this

/-- A bound, told. -/
def Bnd (lv : Option Value) (l : Option Int) : Prop :=
  match l with
  | none => lv = none
  | some i => ∃ k, lv = some (.int k i)
omit hm in
theorem bound_rel {lo : Option Operand} {s : St} {a : Act} (hE : ERel w g s.env a) {l : Option Int} (h : bound (lo.map s.get) = some l) : Bnd (lo.map a.eval) l := by
  cases lo with
  | none => simp [bound] at h; subst h; rfl
  | some x =>
    have := get_rel hE x
    simp only [Option.map_some] at h
    generalize s.get x = v at h this
    cases v <;> simp only [bound, Option.some.injEq, reduceCtorEq] at h
    subst h
    exact ⟨_, by rw [Option.map_some, this.int_inv]⟩
omit hm in
theorem run_sliceBound {k : IntKind} {i : Int} {y : Nat} {c : BoundsCode} (h0 : 0 ≤ i) (h1 : i ≤ y) : (Instr.sliceBound (.int k i) y c).run P w = .ok i.toNat w := by
  simp [Instr.sliceBound, asIntOf, h0, h1]
omit hm in
theorem run_sliceBounds (isS : Bool) {len cap : Nat} {lov hiv : Option Value} {lo hi : Option Int} (hlo : Bnd lov lo) (hhi : Bnd hiv hi) (h0 : 0 ≤ lo.getD 0) (h1 : lo.getD 0 ≤ hi.getD len) (h2 : hi.getD len ≤ len) (hc : len ≤ cap) :
    (Instr.sliceBounds isS len cap lov hiv none).run P w = .ok ((lo.getD 0).toNat, (hi.getD len).toNat, cap) w := by
  cases hi with
  | none =>
    rw [show hiv = none from hhi]
    simp only [Option.getD_none] at h1 h2 ⊢
    cases lo with
    | none =>
      rw [show lov = none from hlo]
      unfold Instr.sliceBounds
      simp
    | some l =>
      obtain ⟨kl, rfl⟩ := hlo
      simp only [Option.getD_some] at h0 h1 ⊢
      unfold Instr.sliceBounds
      simp [run_sliceBound (P := P) (w := w) (k := kl) (i := l) (y := len) (by omega) (by omega)]
  | some i =>
    obtain ⟨k, rfl⟩ := hhi
    simp only [Option.getD_some] at h1 h2 ⊢
    have hb : ∀ c, (Instr.sliceBound (.int k i) cap c).run P w = .ok i.toNat w := fun c => run_sliceBound (by omega) (by omega)
    cases lo with
    | none =>
      rw [show lov = none from hlo]
      simp only [Option.getD_none] at h0 h1 ⊢
      unfold Instr.sliceBounds
      cases isS <;> simp_all
    | some l =>
      obtain ⟨kl, rfl⟩ := hlo
      simp only [Option.getD_some] at h0 h1 ⊢
      unfold Instr.sliceBounds
      have hl := run_sliceBound (P := P) (w := w) (k := kl) (i := l) (y := i.toNat) (c := .sliceB) (by omega) (by omega)
      cases isS <;> simp_all
omit hm in
theorem run_sliceBounds3 (isS : Bool) {len cap : Nat} {lov hiv mxv : Option Value} {lo hi : Option Int} {mx : Int} (hlo : Bnd lov lo) (hhi : Bnd hiv hi) (hhs : hi.isSome = true) (hmx : Bnd mxv (some mx)) (h0 : 0 ≤ lo.getD 0) (h1 : lo.getD 0 ≤ hi.getD len) (h2 : hi.getD len ≤ mx) (hc : mx ≤ cap) :
    (Instr.sliceBounds isS len cap lov hiv mxv).run P w = .ok ((lo.getD 0).toNat, (hi.getD len).toNat, mx.toNat) w := by
  obtain ⟨km, rfl⟩ := hmx
  cases hi with
  | none => cases hhs
  | some i =>
    obtain ⟨k, rfl⟩ := hhi
    simp only [Option.getD_some] at h1 h2 ⊢
    cases lo with
    | none =>
      rw [show lov = none from hlo]
      simp only [Option.getD_none] at h0 h1 ⊢
      unfold Instr.sliceBounds
      simp [run_sliceBound (P := P) (w := w) (k := km) (i := mx) (y := cap) (by omega) hc, run_sliceBound (P := P) (w := w) (k := k) (i := i) (y := mx.toNat) (by omega) (by omega)]
    | some l =>
      obtain ⟨kl, rfl⟩ := hlo
      simp only [Option.getD_some] at h0 h1 ⊢
      unfold Instr.sliceBounds
      simp [run_sliceBound (P := P) (w := w) (k := km) (i := mx) (y := cap) (by omega) hc, run_sliceBound (P := P) (w := w) (k := k) (i := i) (y := mx.toNat) (by omega) (by omega), run_sliceBound (P := P) (w := w) (k := kl) (i := l) (y := i.toNat) (by omega) (by omega)]
end
end Go.Vm

namespace Go.Vm
open Go

theorem bnd_none_of {lo : Option Operand} {a : Act} (h : Bnd (lo.map a.eval) none) : lo.map a.eval = none := h
section
variable {P : Program} {w : World} {g : Gh} {mem : Mem} (hm : MemOk w g mem)
include hm

theorem op_slice {t : TypeId} {x : Operand} {lo hi mx : Option Operand} {s : St} {a : Act} (hE : ERel w g s.env a) {e : Eff} (h : sliceV P mem t (s.get x) (lo.map s.get) (hi.map s.get) (mx.map s.get) = some e) (hp : e.ok)
    (o : Oper) (ho : o.op = .slice t x lo hi mx) : OpOk w g mem ((execOp a.eval o).run P w) e.v e.mem := by
  have hx := get_rel hE x
  unfold sliceV at h
  split at h
  rotate_left
  · cases h
  rename_i ty lov hiv mxv hmk hlo hhi hmx
  have hlo := bound_rel hE hlo
  have hhi := bound_rel hE hhi
  have hmx := bound_rel hE hmx
  have hex : execOp a.eval o = (do pure (.value (← Instr.sliceAt t (a.eval x) (lo.map a.eval) (hi.map a.eval) (mx.map a.eval)))) := by simp [execOp, ho]
  rw [hex]
  generalize lo.map a.eval = LO at hlo ⊢
  generalize hi.map a.eval = HI at hhi ⊢
  generalize mx.map a.eval = MX at hmx ⊢
  generalize s.get x = vx at h hx
  generalize a.eval x = mvx at hx
  obtain ⟨u, size, bytes, agg, zero⟩ := ty
  simp only at h
  split at h
  · -- a string
    rename_i st
    cases mxv with
    | some _ => simp at h
    | none =>
      simp only [Option.some.injEq] at h
      subst h
      obtain ⟨h0, h1, h2⟩ := hp
      obtain rfl := hx.str_inv
      rw [show MX = none from hmx]
      refine .same hm (mv := .string (st.extract (lov.getD 0).toNat (hiv.getD st.size).toNat)) ?_ (.data (.str _))
      simp [Instr.sliceAt, Instr.slice, run_underlying (underlying_string hmk rfl), run_sliceBounds false hlo hhi h0 h1 h2 (Nat.le_refl _)]
  · -- data
    rename_i e0 xs
    have hxd := hx.sl_inv
    cases mxv with
    | none =>
      simp only [Option.some.injEq] at h
      subst h
      obtain ⟨h0, h1, h2, ty', hty, hal⟩ := hp
      obtain ⟨A, cap, rfl, hc, hd⟩ := slice_dr hxd hal (l := (lov.getD 0).toNat) (h := (hiv.getD xs.length).toNat) (by omega) (by omega)
      rw [show MX = none from hmx]
      refine .same hm (mv := .slice (if cap = (lov.getD 0).toNat then A else A.map fun a => a.add ((lov.getD 0).toNat * ty'.size)) ((hiv.getD xs.length).toNat - (lov.getD 0).toNat) (cap - (lov.getD 0).toNat)) ?_ (.data (hd cap (by omega)))
      simp [Instr.sliceAt, Instr.slice, run_underlying (underlying_slice hmk rfl), run_sliceBounds true hlo hhi h0 h1 h2 hc, run_sizeOf' hty]
    | some c =>
      simp only [Option.some.injEq] at h
      subst h
      obtain ⟨hhs, h0, h1, h2, h3, ty', hty, hal⟩ := hp
      obtain ⟨A, cap, rfl, hc, hd⟩ := slice_dr hxd hal (l := (lov.getD 0).toNat) (h := (hiv.getD xs.length).toNat) (by omega) (by omega)
      refine .same hm (mv := .slice (if c.toNat = (lov.getD 0).toNat then A else A.map fun a => a.add ((lov.getD 0).toNat * ty'.size)) ((hiv.getD xs.length).toNat - (lov.getD 0).toNat) (c.toNat - (lov.getD 0).toNat)) ?_ (.data (hd c.toNat (by omega)))
      simp [Instr.sliceAt, Instr.slice, run_underlying (underlying_slice hmk rfl), run_sliceBounds3 true hlo hhi hhs hmx h0 h1 h2 (show c ≤ (cap : Int) by omega), run_sizeOf' hty]
  · -- the call's own
    rename_i e0 k
    split at h
    rotate_left
    · cases h
    rename_i e' sz xs ty' hk hty _ _
    split at h
    rotate_left
    · cases h
    rename_i hes
    obtain ⟨rfl, rfl⟩ := hes
    simp only [Option.some.injEq] at h
    subst h
    obtain ⟨h1, h2⟩ := hp
    obtain ⟨rfl, hkn, hSs⟩ := hx.osl_inv
    rw [show MX = none from hmx]
    obtain rfl : LO = none := hlo
    obtain ⟨t1, t2, t3, t4⟩ := hm.tok k _ hk
    have c0 := (Cur.start hm).kill k
    rcases t4 with ⟨q1, rfl⟩ | ⟨cap, arr, q1, q2, q3, q4, q5, q6, q7⟩
    · simp only [List.length_nil, List.take_nil] at h1 h2 ⊢
      have c2 := c0.addTok (.slice none 0 0) 0 ty'.size (.live e' ty'.size []) ⟨t1, by simp [Gh.addT], by simp, .inl ⟨by simp [Gh.addT], rfl⟩⟩ (fun hn => absurd rfl hn)
      refine ⟨.slice none 0 0, w, _, .inl ?_, ?_, c2⟩
      · have hb := run_sliceBounds (P := P) (w := w) (lo := none) true (len := 0) (cap := 0) (lov := none) rfl hhi (Int.le_refl _) h1 h2 (Nat.le_refl _)
        have hz : (hiv.getD ((0 : Nat) : Int)).toNat = 0 := by omega
        simp only [Option.getD_none, Int.toNat_zero, hz] at hb
        rw [q1]
        simp [Instr.sliceAt, Instr.slice, run_underlying (underlying_slice hmk rfl), hb, run_sizeOf' hty]
      · have e1 : (g.addT (.slice none 0 0) 0 ty'.size).S mem.toks.length = .slice none 0 0 := by simp [Gh.addT, hm.nt]
        have := VR.osl (w := w) (g := g.addT (.slice none 0 0) 0 ty'.size) mem.toks.length (by rw [← hm.nt]; exact Nat.lt_succ_self _) (by rw [e1]; exact ⟨_, _, _, rfl⟩)
        rw [e1] at this
        exact this
    · have hn : g.S k ≠ .slice none 0 0 := by rw [q1]; simp
      obtain ⟨r1, r2, r3⟩ := (Cur.start hm).kill_off hk hn
      have hmul := Nat.mul_le_mul_right ty'.size (show (hiv.getD (xs.length : Int)).toNat ≤ xs.length by omega)
      have hlen : (xs.take (hiv.getD (xs.length : Int)).toNat).length = (hiv.getD (xs.length : Int)).toNat := by simp; omega
      have htok : TOk w (g.addT (.slice (some ⟨g.B k, 0, none⟩) (hiv.getD (xs.length : Int)).toNat cap) (g.B k) ty'.size) g.nt (.live e' ty'.size (xs.take (hiv.getD (xs.length : Int)).toNat)) := by
        refine ⟨t1, by simp [Gh.addT], fun x hx => t3 x (List.mem_of_mem_take hx), .inr ⟨cap, arr, by simp [Gh.addT, hlen], by simpa [Gh.addT] using q2, by omega, q4, q5, fun i x j u hx hu => ?_, fun i hi => q7 i (by rw [hlen] at hi; omega)⟩⟩
        rw [List.getElem?_take] at hx
        split at hx
        · exact q6 i x j u hx hu
        · cases hx
      have c2 := c0.addTok (.slice (some ⟨g.B k, 0, none⟩) (hiv.getD (xs.length : Int)).toNat cap) (g.B k) ty'.size _ htok (fun _ _ => ⟨r3, r2, r1⟩)
      refine ⟨.slice (some ⟨g.B k, 0, none⟩) (hiv.getD (xs.length : Int)).toNat cap, w, _, .inl ?_, ?_, c2⟩
      · have hb := run_sliceBounds (P := P) (w := w) (lo := none) true (len := xs.length) (cap := cap) (lov := none) rfl hhi (Int.le_refl _) h1 h2 q3
        simp only [Option.getD_none, Int.toNat_zero] at hb
        rw [q1]
        simp [Instr.sliceAt, Instr.slice, run_underlying (underlying_slice hmk rfl), hb, run_sizeOf' hty, add_lit]
      · have e1 : (g.addT (.slice (some ⟨g.B k, 0, none⟩) (hiv.getD (xs.length : Int)).toNat cap) (g.B k) ty'.size).S mem.toks.length = .slice (some ⟨g.B k, 0, none⟩) (hiv.getD (xs.length : Int)).toNat cap := by simp [Gh.addT, hm.nt]
        have := VR.osl (w := w) (g := g.addT (.slice (some ⟨g.B k, 0, none⟩) (hiv.getD (xs.length : Int)).toNat cap) (g.B k) ty'.size) mem.toks.length (by rw [← hm.nt]; exact Nat.lt_succ_self _) (by rw [e1]; exact ⟨_, _, _, rfl⟩)
        rw [e1] at this
        exact this
  · cases h
end
end Go.Vm

namespace Go.Vm
open Go

theorem bytesOf_inv : ∀ {xs : List (List V)} {l : List UInt8}, bytesOf xs = some l → ∃ ns : List Int, xs = ns.map (fun n => [V.int .u8 n]) ∧ l = ns.map fun n => UInt8.ofNat n.toNat
  | [], l, h => by
    simp only [bytesOf, Option.some.injEq] at h
    exact ⟨[], rfl, h.symm⟩
  | x :: r, l, h => by
    unfold bytesOf at h
    split at h
    · rename_i heq; cases heq
    · rename_i n r' heq
      injection heq with h1 h2
      subst h1 h2
      rw [Option.map_eq_some_iff] at h
      obtain ⟨l', h1, rfl⟩ := h
      obtain ⟨ns, rfl, rfl⟩ := bytesOf_inv h1
      exact ⟨n :: ns, rfl, rfl⟩
    · cases h
theorem foldl_push : ∀ (ns : List Int) (s : ByteArray), ns.foldl (fun r n => r.push (UInt8.ofNat n.toNat)) s = ⟨s.data ++ (ns.map fun n => UInt8.ofNat n.toNat).toArray⟩
  | [], s => by simp
  | n :: ns, s => by
    rw [List.foldl_cons, foldl_push ns]
    congr 1
    show s.data.push _ ++ _ = _
    apply Array.ext'
    simp
section
variable {P : Program} {w : World} {g : Gh} {mem : Mem} (hm : MemOk w g mem)
include hm

theorem op_convert_scal {src dst : TypeId} {x : Operand} (ρ : Operand → Value) {vx : V} (hx : VR w g vx (ρ x)) {v : V} {m : Mem} (h : convV P src dst mem vx = some (v, m)) (o : Oper) (ho : o.op = .convert src dst x) :
    OpOk w g mem ((execOp ρ o).run P w) v m := by
  unfold convV at h
  split at h
  · rename_i ty k _ _ _ _ k' n h1 h2
    obtain ⟨i, d, z, hi, hd, hz, hzv, hs, hb, ha, hu⟩ := mkTy_inv h1
    simp only [Option.some.injEq, Prod.mk.injEq] at h
    obtain ⟨rfl, rfl⟩ := h
    obtain e := hx.int_inv
    refine .same hm (mv := .int k (k.wrap n)) ?_ (.data (.int _ _))
    simp [execOp, ho, e, convert, run_underlying hd, run_underlying (underlying_int h2 rfl), Conv.intToInt]
  · rename_i ty _ _ _ _ s h1 h2
    obtain ⟨i, d, z, hi, hd, hz, hzv, hs, hb, ha, hu⟩ := mkTy_inv h1
    simp only [Option.some.injEq, Prod.mk.injEq] at h
    obtain ⟨rfl, rfl⟩ := h
    obtain e := hx.str_inv
    refine .same hm (mv := .string s) ?_ (.data (.str _))
    simp [execOp, ho, e, convert, run_underlying hd, run_underlying (underlying_string h2 rfl)]
  · cases h
theorem op_convert_bytes {src dst e : TypeId} {x : Operand} (ρ : Operand → Value) {vx : V} (hx : VR w g vx (ρ x)) {ty1 ty2 ty3 : Ty} (h1 : mkTy P src = some ty1) (u1 : ty1.u = .slice e) (h2 : mkTy P dst = some ty2) (u2 : ty2.u = .string) (h3 : mkTy P e = some ty3) (u3 : ty3.u = .int .u8)
    {xs : List (List V)} (hr : rdSl mem vx = some xs) {l : List UInt8} (hl : bytesOf xs = some l) (o : Oper) (ho : o.op = .convert src dst x) :
    OpOk w g mem ((execOp ρ o).run P w) (.str ⟨l.toArray⟩) mem := by
  obtain ⟨ns, rfl, rfl⟩ := bytesOf_inv hl
  obtain ⟨A, c, hmx, hnil, hsome⟩ := src_rel hm hr hx (sz := 1) (fun y hy => by
    obtain ⟨n, _, rfl⟩ := List.mem_map.1 hy
    rfl)
  refine .same hm (mv := .string ⟨(ns.map fun n => UInt8.ofNat n.toNat).toArray⟩) ?_ (.data (.str _))
  have e1 := run_underlying (w := w) (underlying_slice h1 u1)
  have e2 := run_underlying (w := w) (underlying_string h2 u2)
  have e3 := run_underlying (w := w) (underlying_int h3 u3)
  cases A with
  | none =>
    have : ns = [] := by simpa using hnil rfl
    subst this
    simp [execOp, ho, hmx, convert, e1, e2, e3, Conv.bytesToString]
    rfl
  | some a =>
    obtain ⟨news, q1, q2, q3, q4⟩ := hsome a rfl
    have hnews : news = ns.map (Value.int .u8) := by
      apply List.ext_getElem?
      intro j
      by_cases hj : j < ns.length
      · have := q4 j [.int .u8 ns[j]] 0 (.int .u8 ns[j]) (by simp [hj]) rfl
        simp only [Nat.mul_one, Nat.add_zero] at this
        have hj' : j < news.length := by rw [q1]; simpa using hj
        rw [List.getD_eq_getElem?_getD, List.getElem?_eq_getElem hj', Option.getD_some] at this
        have e : news[j] = .int .u8 ns[j] := by
          generalize news[j] = u at this
          cases this
          rfl
        simp [hj, hj', e]
      · have hj' : ¬ j < news.length := by rw [q1]; simpa using hj
        rw [List.getElem?_eq_none (by omega), List.getElem?_eq_none (by simp; omega)]
    have hlen : news.length = (ns.map fun n => [V.int .u8 n]).length := by rw [q1, Nat.mul_one]
    have hld := run_loadCells_list (P := P) w a news (fun j u hu => q2 j u hu)
    rw [hlen, hnews] at hld
    have := run_bytesToString (P := P) w a (ns.map fun n => [V.int .u8 n]).length c ns hld
    rw [foldl_push] at this
    simp only [List.length_map] at this
    simp [execOp, ho, hmx, convert, e1, e2, e3, this]
theorem sl_rel {vx : V} {ys : List (List V)} (hr : rdSl mem vx = some ys) {mv : Value} (hx : VR w g vx mv) : ∃ A c, mv = .slice A ys.length c := by
  have row : ∀ {mv : Value}, DR w g.C (.sl ys) mv → ∃ A c, mv = .slice A ys.length c := fun hd => by
    cases hd with
    | sl0 A c => exact ⟨A, c, rfl⟩
    | sl => exact ⟨_, _, rfl⟩
  cases vx with
  | sl xs =>
    simp only [rdSl, Option.some.injEq] at hr
    subst hr
    exact row hx.sl_inv
  | nilsl =>
    simp only [rdSl, Option.some.injEq] at hr
    subst hr
    exact ⟨none, 0, hx.nilsl_inv⟩
  | osl k =>
    obtain ⟨rfl, hkn, hSs⟩ := hx.osl_inv
    simp only [rdSl] at hr
    split at hr
    · rename_i e' sz zs hk
      injection hr with hr
      subst hr
      obtain ⟨t1, t2, t3, t4⟩ := hm.tok k _ hk
      rcases t4 with ⟨q1, rfl⟩ | ⟨cap, arr, q1, _⟩
      · exact ⟨_, _, q1⟩
      · exact ⟨_, _, q1⟩
    · rename_i zs hk
      injection hr with hr
      subst hr
      exact row (hm.tok k _ hk)
    · cases hr
  | _ => simp [rdSl] at hr
theorem op_len {t : TypeId} {x : Operand} (ρ : Operand → Value) {vx : V} (hx : VR w g vx (ρ x)) {v : V} (h : lenV P mem t vx = some v) (o : Oper) (ho : o.op = .call ⟨.builtin .len, #[x], #[t]⟩) :
    OpOk w g mem ((execOp ρ o).run P w) v mem := by
  unfold lenV at h
  split at h
  · rename_i _ _ _ _ _ s h1
    injection h with h
    subst h
    refine .same hm (mv := .int .i64 s.size) ?_ (.data (.int _ _))
    simp [execOp, ho, resolve, invoke, builtin, hx.str_inv, Builtin.len_, run_underlying (underlying_string h1 rfl), goInt]
  · rename_i h1
    rw [Option.map_eq_some_iff] at h
    obtain ⟨ys, hr, rfl⟩ := h
    obtain ⟨A, c, hA⟩ := sl_rel hm hr hx
    refine .same hm (mv := .int .i64 ys.length) ?_ (.data (.int _ _))
    simp [execOp, ho, resolve, invoke, builtin, hA, Builtin.len_, run_underlying (underlying_slice h1 rfl), goInt]
  · cases h

/-- Every operation that neither calls nor branches. -/
theorem evalOp_ok {cold : Bool} {s : St} {a : Act} (hE : ERel w g s.env a) (hmem : s.mem = mem) (o : Oper) {e : Eff} (h : evalOp P cold s o.op = some e) (hp : e.ok) : OpOk w g mem ((execOp a.eval o).run P w) e.v e.mem := by
  subst hmem
  cases ho : o.op with
  | move x =>
    rw [ho] at h
    simp only [evalOp, Option.some.injEq] at h
    subst h
    exact op_move hm a.eval (get_rel hE x) o (.inl ho)
  | assign x =>
    rw [ho] at h
    simp only [evalOp, Option.some.injEq] at h
    subst h
    exact op_move hm a.eval (get_rel hE x) o (.inr ho)
  | alloc t =>
    rw [ho] at h
    simp only [evalOp] at h
    split at h
    · rename_i ty hty
      injection h with h
      subst h
      exact op_alloc hm hty a.eval o ho
    · cases h
  | box t x =>
    rw [ho] at h
    simp only [evalOp] at h
    split at h
    · cases h
    · rename_i hj
      injection h with h
      subst h
      exact op_box hm a.eval (get_rel hE x) (by simpa using hj) o ho
  | build t ps =>
    rw [ho] at h
    simp only [evalOp] at h
    split at h
    · rename_i h1
      split at h
      · cases h
      · rename_i ht
        split at h
        · rename_i cs hf
          injection h with h
          subst h
          exact op_build_struct hm h1 rfl (by simpa using ht) hE ps hf o ho
        · cases h
    · rename_i h1
      split at h
      · rename_i ty h2
        split at h
        · rename_i cs hf
          injection h with h
          subst h
          exact op_build_array hm h1 rfl h2 hE ps hf o ho
        · cases h
      · cases h
    · cases h
  | buildSlice t n ps =>
    rw [ho] at h
    simp only [evalOp] at h
    split at h
    · rename_i h1
      split at h
      · rename_i ty h2
        split at h
        · cases h
        · rename_i hc
          simp only [not_or] at hc
          obtain ⟨c1, c2, c3, c4⟩ := hc
          split at h
          · rename_i hpl
            obtain ⟨p1, p2, p3⟩ := hpl
            split at h
            · rename_i cs hf
              obtain ⟨r1, r2⟩ := op_buildSlice hm h1 rfl h2 (by omega) (by simpa using c2) (by omega) (by omega) hE ps p1 p2 p3 hf o ho
              split at h
              · injection h with h
                subst h
                exact r1
              · injection h with h
                subst h
                exact r2
            · cases h
          · cases h
      · cases h
    · cases h
  | load t x =>
    rw [ho] at h
    simp only [evalOp] at h
    split at h
    · rename_i ty h1
      split at h
      · rename_i v hv
        injection h with h
        subst h
        obtain ⟨mv, hrun, hr⟩ := load_rel hm h1 (get_rel hE x) hv
        exact .same hm (by simp [execOp, ho, hrun]) hr
      · cases h
    · cases h
  | store t x y =>
    rw [ho] at h
    simp only [evalOp] at h
    split at h
    · rename_i ty h1
      split at h
      · rename_i m hs
        injection h with h
        subst h
        exact op_store hm h1 a.eval (get_rel hE x) (get_rel hE y) hs o ho
      · cases h
    · cases h
  | nilCheck x =>
    rw [ho] at h
    have hx := get_rel hE x
    simp only [evalOp] at h
    generalize s.get x = vx at h hx
    split at h
    · injection h with h
      subst h
      exact op_nilCheck hm a.eval hx (.inl ⟨_, _, rfl⟩) o ho
    · injection h with h
      subst h
      exact op_nilCheck hm a.eval hx (.inr (.inl ⟨_, _, _, rfl⟩)) o ho
    · injection h with h
      subst h
      exact op_nilCheck hm a.eval hx (.inr (.inr ⟨_, rfl⟩)) o ho
    · cases h
  | binOp op t x y t' =>
    rw [ho] at h
    simp only [evalOp] at h
    split at h
    · rename_i p v hv
      injection h with h
      subst h
      exact op_bin hm a.eval (get_rel hE x) (get_rel hE y) hv hp o ho
    · cases h
  | unOp op t x =>
    rw [ho] at h
    simp only [evalOp] at h
    split at h
    · rename_i v hv
      injection h with h
      subst h
      exact op_un hm a.eval (get_rel hE x) hv o ho
    · cases h
  | convert src dst x =>
    rw [ho] at h
    simp only [evalOp] at h
    split at h
    · rename_i v m hv
      injection h with h
      subst h
      exact op_convert_scal hm a.eval (get_rel hE x) hv o ho
    · split at h
      · rename_i h1 h2 h3
        split at h
        · rename_i h4 h5
          injection h with h
          subst h
          exact op_convert_bytes hm a.eval (get_rel hE x) h1 rfl h2 rfl h4 rfl h3 h5 o ho
        · cases h
      · cases h
  | makeFunc f fs cs =>
    rw [ho] at h
    simp only [evalOp, Option.some.injEq] at h
    subst h
    exact op_makeFunc hm hE o ho
  | slice t x lo hi mx =>
    rw [ho] at h
    exact op_slice hm hE h hp o ho
  | fieldAddr t x f =>
    rw [ho] at h
    have hx := get_rel hE x
    simp only [evalOp] at h
    split at h
    · rename_i h1
      split at h
      · rename_i off ft hf
        split at h
        · rename_i fty hft
          split at h
          · cases h
          · rename_i hz
            generalize s.get x = vx at h hx
            split at h
            · injection h with h
              subst h
              exact op_fieldAddr hm h1 rfl hf hft hz a.eval hx (.inl ⟨_, _, rfl, rfl⟩) o ho
            · split at h
              · rename_i hle
                injection h with h
                subst h
                exact op_fieldAddr hm h1 rfl hf hft hz a.eval hx (.inr (.inl ⟨_, rfl, hle, rfl⟩)) o ho
              · cases h
            · injection h with h
              subst h
              exact op_fieldAddr hm h1 rfl hf hft hz a.eval hx (.inr (.inr ⟨_, _, _, rfl, rfl⟩)) o ho
            · cases h
        · cases h
      · cases h
    · cases h
  | field t x f =>
    rw [ho] at h
    have hx := get_rel hE x
    simp only [evalOp] at h
    generalize s.get x = vx at h hx
    split at h
    · rename_i h1
      split at h
      · rename_i off ft hf
        split at h
        · rename_i fty hft
          split at h
          · rename_i v hv
            injection h with h
            subst h
            exact op_field hm h1 rfl hf hft a.eval hx hv o ho
          · cases h
        · cases h
      · cases h
    · cases h
  | indexAddr t x i =>
    rw [ho] at h
    simp only [evalOp] at h
    split at h
    · rename_i p v hv
      injection h with h
      subst h
      exact op_indexAddr hm a.eval (get_rel hE x) (get_rel hE i) hv hp o ho
    · cases h
  | index t x i =>
    rw [ho] at h
    simp only [evalOp] at h
    split at h
    · rename_i p v hv
      injection h with h
      subst h
      exact op_index hm a.eval (get_rel hE x) (get_rel hE i) hv hp o ho
    · cases h
  | extract x i =>
    rw [ho] at h
    have hx := get_rel hE x
    simp only [evalOp] at h
    generalize s.get x = vx at h hx
    split at h
    · split at h
      · rename_i v hv
        injection h with h
        subst h
        exact op_extract hm a.eval hx hv o ho
      · cases h
    · cases h
  | makeInterface t x =>
    rw [ho] at h
    simp only [evalOp] at h
    split at h
    · cases h
    · rename_i ty hne h1
      injection h with h
      subst h
      exact op_makeInterface hm h1 (fun hc => by
        obtain ⟨u, size, bytes, agg, zero⟩ := ty
        simp only at hc
        subst hc
        exact hne _ _ _ _ rfl) a.eval (get_rel hE x) o ho
    · cases h
  | call c =>
    obtain ⟨cal, as, ts⟩ := c
    rw [ho] at h
    cases cal with
    | builtin b =>
      cases b <;> simp only [evalOp, reduceCtorEq] at h
      case len =>
        split at h
        · rename_i x t h1 h2
          split at h
          · rename_i v hv
            injection h with h
            subst h
            obtain rfl : as = #[x] := by apply Array.ext'; simpa using h1
            obtain rfl : ts = #[t] := by apply Array.ext'; simpa using h2
            exact op_len hm a.eval (get_rel hE x) hv o ho
          · cases h
        · cases h
      case max =>
        split at h
        · rename_i x y h1
          obtain rfl : as = #[x, y] := by apply Array.ext'; simpa using h1
          have hx := get_rel hE x
          have hy := get_rel hE y
          generalize s.get x = vx at h hx
          generalize s.get y = vy at h hy
          split at h
          · rename_i k n k' n'
            split at h
            · rename_i hk
              subst hk
              injection h with h
              subst h
              refine .same hm (mv := .int k (if n < n' then n' else n)) ?_ (.data (.int _ _))
              simp [execOp, ho, resolve, invoke, builtin, hx.int_inv, hy.int_inv, Builtin.max_, Builtin.max2]
            · cases h
          · cases h
        · cases h
      case min =>
        split at h
        · rename_i x y h1
          obtain rfl : as = #[x, y] := by apply Array.ext'; simpa using h1
          have hx := get_rel hE x
          have hy := get_rel hE y
          generalize s.get x = vx at h hx
          generalize s.get y = vy at h hy
          split at h
          · rename_i k n k' n'
            split at h
            · rename_i hk
              subst hk
              injection h with h
              subst h
              refine .same hm (mv := .int k (if n' < n then n' else n)) ?_ (.data (.int _ _))
              simp [execOp, ho, resolve, invoke, builtin, hx.int_inv, hy.int_inv, Builtin.min_, Builtin.min2]
            · cases h
          · cases h
        · cases h
      case append =>
        split at h
        · rename_i x y t t2 h1 h2
          obtain rfl : as = #[x, y] := by apply Array.ext'; simpa using h1
          obtain rfl : ts = #[t, t2] := by apply Array.ext'; simpa using h2
          unfold appendV at h
          split at h
          · cases h
          · rename_i htt
            obtain rfl : t = t2 := by simpa using htt
            split at h
            · rename_i h3
              split at h
              · rename_i ty h4
                split at h
                · cases h
                · rename_i hz
                  simp only [not_or] at hz
                  split at h
                  · rename_i ys hr
                    have hx := get_rel hE x
                    generalize hgx : s.get x = vx at h hx
                    split at h
                    · injection h with h
                      subst h
                      obtain ⟨q1, q2, q3⟩ := hp
                      exact op_append_nil hm h3 rfl h4 (by omega) (by simpa using hz.2) a.eval hx.nilsl_inv hr (get_rel hE y) q1 q2 q3 o ho
                    · split at h
                      · cases h
                      · split at h
                        · rename_i hk
                          split at h
                          · rename_i hes
                            obtain ⟨rfl, rfl⟩ := hes
                            injection h with h
                            subst h
                            obtain ⟨q1, q2, q3⟩ := hp
                            exact op_append_own hm h3 rfl h4 (by omega) (by simpa using hz.2) a.eval hx hk hr (get_rel hE y) q1 q2 q3 o ho
                          · cases h
                        · cases h
                    · cases h
                  · cases h
              · cases h
            · cases h
        · cases h
    | _ => simp [evalOp] at h
  | _ => rw [ho] at h; simp [evalOp] at h
end
end Go.Vm
