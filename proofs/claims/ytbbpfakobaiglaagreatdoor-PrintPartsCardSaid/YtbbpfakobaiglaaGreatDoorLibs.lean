/- The contracts of slices.Sort and slices.Compact, laid, as calls of the abstract machine. -/
import Derived.Shelf.Sort.Plain
import Derived.Shelf.Slices.In.SortNone
import Derived.Shelf.Slices.CompactS
import Derived.Test.YtbbpfakobaiglaaGreatDoorProg
import Derived.Test.YtbbpfakobaiglaaGreatDoorLibr
import Derived.Test.YtbbpfakobaiglaaGreatDoorWalkC
set_option linter.unusedVariables false
set_option linter.unusedSimpArgs false
namespace Go.Proofs
open Go.Shelf
def Tryz.lays190_ren : Go.Shelf.Ren := ⟨fun | 190 => 179 | 125 => 222 | 258 => 221 | 128 => 259 | 129 => 260 | 302 => 251 | 303 => 252 | 304 => 253 | 305 => 254 | 306 => 255 | 307 => 256 | 308 => 219 | 309 => 257 | 310 => 258 | 333 => 285 | 329 => 286 | 330 => 287 | 334 => 288 | 335 => 289 | 336 => 250 | 344 => 303 | n => n, fun | 31 => 131 | 9 => 9 | 3 => 3 | 46 => 183 | 0 => 0 | 51 => 258 | 53 => 203 | 4 => 4 | 183 => 252 | 182 => 251 | 131 => 188 | 5 => 5 | 218 => 279 | 222 => 283 | 228 => 296 | 229 => 297 | n => n, fun | n => n⟩
theorem Tryz.lays190 : Go.Proofs.Lays.n190 Tryz.prog Tryz.lays190_ren := {
  mixed := by kernel_rfl
  f125 := Tryz.func222.trans (congrArg some (by kernel_rfl))
  f128 := Tryz.func259.trans (congrArg some (by kernel_rfl))
  f129 := Tryz.func260.trans (congrArg some (by kernel_rfl))
  f190 := Tryz.func179.trans (congrArg some (by kernel_rfl))
  f258 := Tryz.func221.trans (congrArg some (by kernel_rfl))
  f302 := Tryz.func251.trans (congrArg some (by kernel_rfl))
  f303 := Tryz.func252.trans (congrArg some (by kernel_rfl))
  f304 := Tryz.func253.trans (congrArg some (by kernel_rfl))
  f305 := Tryz.func254.trans (congrArg some (by kernel_rfl))
  f306 := Tryz.func255.trans (congrArg some (by kernel_rfl))
  f307 := Tryz.func256.trans (congrArg some (by kernel_rfl))
  f308 := Tryz.func219.trans (congrArg some (by kernel_rfl))
  f309 := Tryz.func257.trans (congrArg some (by kernel_rfl))
  f310 := Tryz.func258.trans (congrArg some (by kernel_rfl))
  f329 := Tryz.func286.trans (congrArg some (by kernel_rfl))
  f330 := Tryz.func287.trans (congrArg some (by kernel_rfl))
  f333 := Tryz.func285.trans (congrArg some (by kernel_rfl))
  f334 := Tryz.func288.trans (congrArg some (by kernel_rfl))
  f335 := Tryz.func289.trans (congrArg some (by kernel_rfl))
  f336 := Tryz.func250.trans (congrArg some (by kernel_rfl))
  f344 := Tryz.func303.trans (congrArg some (by kernel_rfl))
  t0 := Tryz.underlying0
  a0 := Tryz.isAgg0
  z0 := Tryz.sizeOf0
  v0 := Tryz.zeroValue0
  t3 := Tryz.underlying3
  a3 := Tryz.isAgg3
  z3 := Tryz.sizeOf3
  v3 := Tryz.zeroValue3
  t4 := Tryz.underlying4
  a4 := Tryz.isAgg4
  z4 := Tryz.sizeOf4
  v4 := Tryz.zeroValue4
  t5 := Tryz.underlying5
  a5 := Tryz.isAgg5
  z5 := Tryz.sizeOf5
  v5 := Tryz.zeroValue5
  t9 := Tryz.underlying9
  a9 := Tryz.isAgg9
  z9 := Tryz.sizeOf9
  v9 := Tryz.zeroValue9
  t31 := Tryz.underlying131
  a31 := Tryz.isAgg131
  z31 := Tryz.sizeOf131
  v31 := Tryz.zeroValue131
  t46 := Tryz.underlying183
  a46 := Tryz.isAgg183
  z46 := Tryz.sizeOf183
  v46 := Tryz.zeroValue183
  t51 := Tryz.underlying258
  a51 := Tryz.isAgg258
  z51 := Tryz.sizeOf258
  v51 := Tryz.zeroValue258
  t53 := Tryz.underlying203
  a53 := Tryz.isAgg203
  z53 := Tryz.sizeOf203
  v53 := Tryz.zeroValue203
  t131 := Tryz.underlying188
  a131 := Tryz.isAgg188
  z131 := Tryz.sizeOf188
  v131 := Tryz.zeroValue188
  t182 := Tryz.underlying251
  a182 := Tryz.isAgg251
  z182 := Tryz.sizeOf251
  v182 := Tryz.zeroValue251
  t183 := Tryz.underlying252
  a183 := Tryz.isAgg252
  z183 := Tryz.sizeOf252
  v183 := Tryz.zeroValue252
  t218 := Tryz.underlying279
  a218 := Tryz.isAgg279
  z218 := Tryz.sizeOf279
  v218 := Tryz.zeroValue279
  t222 := Tryz.underlying283
  a222 := Tryz.isAgg283
  z222 := Tryz.sizeOf283
  v222 := Tryz.zeroValue283
  t228 := Tryz.underlying296
  a228 := Tryz.isAgg296
  z228 := Tryz.sizeOf296
  v228 := Tryz.zeroValue296
  t229 := Tryz.underlying297
  a229 := Tryz.isAgg297
  z229 := Tryz.sizeOf297
  v229 := Tryz.zeroValue297 }
open Go.RowKit Go.Sort in
theorem Tryz.slices_Sort_string (blk off cap : Nat) (ss : List (List UInt8)) (w : World) (hH : Holds encStr w blk off ss.toArray) (hblk : blk < w.heap.size) (hsz : ss.length < 4611686018427387904) :
    Calls Tryz.prog 179 #[.slice (some ⟨blk, off, none⟩) ss.length cap] w fun e w' => e = .returned (.tuple #[]) ∧ ∃ n os, w' = grow (putRow encStr (Sort.ahead w n) blk off (ss.mergeSort fun x y => decide (x ≤ y)).toArray) os := Any.slices_Sort_string Tryz.lays190 blk off cap ss w hH hblk hsz
open Go.RowKit Go.Sort in
theorem Tryz.slices_Sort_string_none (p : Option Addr) (cap : Nat) (w : World) :
    Calls Tryz.prog 179 #[.slice p 0 cap] w fun e w' => e = .returned (.tuple #[]) ∧ w' = w := Any.slices_Sort_string_none Tryz.lays190 p cap w
def Tryz.lays194_ren : Go.Shelf.Ren := ⟨fun | 194 => 180 | n => n, fun | 31 => 131 | 9 => 9 | 3 => 3 | 4 => 4 | 0 => 0 | n => n, fun | n => n⟩
theorem Tryz.lays194 : Go.Proofs.Lays.n194 Tryz.prog Tryz.lays194_ren := {
  mixed := by kernel_rfl
  f194 := Tryz.func180.trans (congrArg some (by kernel_rfl))
  t0 := Tryz.underlying0
  a0 := Tryz.isAgg0
  z0 := Tryz.sizeOf0
  v0 := Tryz.zeroValue0
  t3 := Tryz.underlying3
  a3 := Tryz.isAgg3
  z3 := Tryz.sizeOf3
  v3 := Tryz.zeroValue3
  t4 := Tryz.underlying4
  a4 := Tryz.isAgg4
  z4 := Tryz.sizeOf4
  v4 := Tryz.zeroValue4
  t9 := Tryz.underlying9
  a9 := Tryz.isAgg9
  z9 := Tryz.sizeOf9
  v9 := Tryz.zeroValue9
  t31 := Tryz.underlying131
  a31 := Tryz.isAgg131
  z31 := Tryz.sizeOf131
  v31 := Tryz.zeroValue131 }
open Go.RowKit Go.Lib Go.Sort in
theorem Tryz.slices_Compact_string (blk off cap : Nat) (zs : List (List UInt8)) (w : World) (hH : Holds encStr w blk off zs.toArray) (hsz : zs.length ≤ 9223372036854775807) (hcap : zs.length ≤ cap) :
    Calls Tryz.prog 180 #[.slice (some ⟨blk, off, none⟩) zs.length cap] w fun e w' => e = .returned (.slice (some ⟨blk, off, none⟩) (Lib.compact zs).length cap) ∧ ∃ q, w' = putRow encStr (Sort.ahead w q) blk off (Lib.compact zs ++ List.replicate (zs.length - (Lib.compact zs).length) []).toArray := Any.slices_Compact_string Tryz.lays194 blk off cap zs w hH hsz hcap
open Go.RowKit Go.Lib Go.Sort in
theorem Tryz.slices_Compact_string_empty (a : Option Addr) (cap : Nat) (w : World) :
    Calls Tryz.prog 180 #[.slice a 0 cap] w fun e w' => e = .returned (.slice a 0 cap) ∧ w' = w := Any.slices_Compact_string_empty Tryz.lays194 a cap w
end Go.Proofs

namespace Go.Vm
open Go Go.Proofs Go.RowKit Go.Sort
theorem allLen_strs' (l : List S) : ∀ x ∈ strs l, x.length = 1 := fun x hx => by
  obtain ⟨t, _, rfl⟩ := List.mem_map.1 hx
  rfl
theorem compact_len' (zs : List S) : (Lib.compact zs).length ≤ zs.length := by
  unfold Lib.compact Lib.compactUpTo
  rw [List.length_map]
  have := List.length_filter_le (Lib.keeps zs.toArray) (List.range zs.length)
  simpa using this
theorem enc_bs (s : S) : encStr s = .string (bs s) := rfl
theorem holds_of {w : World} {b cap : Nat} {arr : Array Value} {e : TypeId} {C : Nat → Prop} {l : List S} (ha : w.heap[b]? = some (.cells arr e (0, 0))) (hcap : l.length ≤ cap) (hsz : arr.size = cap * 1)
    (hdr : ∀ i x j u, (strs l)[i]? = some x → x[j]? = some u → DR w C u (arr.getD (i * 1 + j) undef)) : Holds encStr w b 0 l.toArray := by
  intro j hj
  have hj' : j < l.length := by simpa using hj
  have h := hdr j [.str (bs l[j])] 0 (.str (bs l[j])) (strs_at l j hj') rfl
  have hlt : j < arr.size := by omega
  simp only [Nat.mul_one, Nat.add_zero] at h
  rw [Array.getD_eq_getD_getElem?, Array.getElem?_eq_getElem hlt, Option.getD_some] at h
  have hv : arr[j] = .string (bs l[j]) := by
    generalize arr[j] = v at h
    cases h
    rfl
  have hg : l.toArray[j]! = l[j] := by simp [getElem!_pos, hj']
  refine ⟨?_, ?_⟩
  · unfold World.cell?
    simp [ha, hlt, hv, hg, enc_bs]
  · unfold World.frozen?
    simp [ha]
theorem put_heap (w : World) (b : Nat) (arr : Array Value) (e : TypeId) (ha : w.heap[b]? = some (.cells arr e (0, 0))) (d : Array S) (n : Nat) (h : Nat) (hh : h < w.heap.size) :
    (putRow encStr (Sort.ahead w n) b 0 d).heap[h]? = if h = b then some (.cells (putCells encStr 0 d arr) e (0, 0)) else w.heap[h]? := by
  simp only [putRow, mapBlock, heap_ahead, Array.getElem?_modify]
  by_cases hb : b = h
  · subst hb
    simp [ha, onCells]
  · rw [if_neg hb, if_neg (fun h => hb h.symm)]
theorem put_at (arr : Array Value) (d : List S) (i : Nat) (hi : i < d.length) (ha : i < arr.size) : (putCells encStr 0 d.toArray arr).getD i undef = .string (bs d[i]) := by
  have : d.toArray[i]! = d[i] := by simp [getElem!_pos, hi]
  simp [Array.getD_eq_getD_getElem?, putCells, ha, hi, enc_bs, this]
theorem putc_size (arr : Array Value) (d : Array S) : (putCells encStr 0 d arr).size = arr.size := by simp [putCells]
theorem snd_sort (e : TypeId) (l : List S) (hl : l.length < 4611686018427387904) : SndIp Tryz.prog 179 e 1 (strs l) (strs (sortS l)) := by
  refine ⟨⟨_, Tryz.func179, by kernel_rfl, by kernel_rfl⟩, by simp [sortS_len], fun y hy => allLen_strs' _ y hy, fun h0 w => ?_, fun w C b cap arr ha hcap hsz hdr => ?_⟩
  · exact Tryz.slices_Sort_string_none none 0 w
  · simp only [strs_len] at hcap
    have hb : b < w.heap.size := (Array.getElem?_eq_some_iff.1 ha).1
    have hlen : (strs l).length = l.length := strs_len l
    rw [hlen]
    refine (Tryz.slices_Sort_string b 0 cap l w (holds_of ha hcap hsz hdr) hb hl).mono ?_
    rintro ex w' ⟨rfl, n, os, rfl⟩
    refine ⟨rfl, putCells encStr 0 (sortS l).toArray arr, putc_size _ _, ?_, ?_, rfl, rfl, rfl, ?_, ?_⟩
    · intro i x j u hx hu
      have hi : i < (sortS l).length := by
        have := (List.getElem?_eq_some_iff.1 hx).1
        simpa using this
      rw [strs_at _ _ hi] at hx
      injection hx with hx
      subst hx
      have hj : j = 0 := by
        have := (List.getElem?_eq_some_iff.1 hu).1
        simpa using this
      subst hj
      simp only [List.getElem?_cons_zero, Option.some.injEq] at hu
      subst hu
      have hs := sortS_len l
      rw [Nat.mul_one, Nat.add_zero, put_at _ _ _ hi (by omega)]
      exact .str _
    · intro i hi
      have hs := sortS_len l
      rw [put_at _ _ _ (by omega) (by omega)]
      rfl
    · simp [grow]
    · intro h hh
      have e1 : (grow (putRow encStr (Sort.ahead w n) b 0 (l.mergeSort fun x y => decide (x ≤ y)).toArray) os).heap[h]? = (putRow encStr (Sort.ahead w n) b 0 (sortS l).toArray).heap[h]? := heap_grow_old _ _ (by simpa using hh)
      rw [e1, put_heap w b arr e ha _ n h hh]
      split
      · rename_i hbe
        subst hbe
        rw [setRow_heap w h arr _ e _ ha]
      · rename_i hbe
        rw [setRow_other w b h _ hbe]
theorem snd_compact (l : List S) (hl : l.length ≤ 1000000) : Snd Tryz.prog J0 180 [.osl 0] ⟨[], [.live 9 1 (strs l)], [], []⟩ (.sl (strs (Lib.compact l))) m0 := by
  refine ⟨⟨_, Tryz.func180, by kernel_rfl, by kernel_rfl⟩, fun w g A hJ hA hm => ?_⟩
  obtain ⟨x, rfl, hx⟩ := args1 hA
  obtain ⟨rfl, hk, A0, n0, c0, hS⟩ := hx.osl_inv
  obtain ⟨t1, t2, t3, t4⟩ := hm.tok 0 _ rfl
  have offB : ∀ h, g.S 0 ≠ .slice none 0 0 → Off ⟨[], [.live 9 1 (strs l)], [], []⟩ g h → h ≠ g.B 0 := fun h hn ho he => ho (.tok 0) ⟨hn, _, _, _, rfl⟩ he.symm
  have off0 : ∀ (g' : Gh) h, Off m0 g' h := fun g' h l hl => by cases l <;> simp [Held, m0] at hl
  -- nothing in it
  have empty : l = [] → ∀ a cap, Calls Tryz.prog 180 #[.slice a 0 cap] w fun e w' => ∃ mv g', e = .returned mv ∧ VR w' g' (.sl (strs (Lib.compact l))) mv ∧ MemOk w' g' m0 ∧ CallNx w g ⟨[], [.live 9 1 (strs l)], [], []⟩ w' g' m0 := by
    rintro rfl a cap
    refine (Tryz.slices_Compact_string_empty a cap w).mono ?_
    rintro e w' ⟨rfl, rfl⟩
    refine ⟨_, { g with nt := 0 }, rfl, .data (.sl0 a cap), ⟨hm.nb, rfl, hm.nm, ?_, ?_, ?_, ?_, fun h hh => ⟨(hm.com h hh).1, off0 _ _⟩⟩, ⟨fun b hb => by simp at hb, fun _ h => h, rfl, rfl, rfl, Nat.le_refl _, fun _ _ _ => rfl, fun _ _ _ h => h, fun _ _ _ => off0 _ _⟩⟩
    · intro b cs h; simp [m0] at h
    · intro b cs h; simp [m0] at h
    · intro b cs h; simp [m0] at h
    · intro l l' hl; cases l <;> simp [Held, m0] at hl
  rcases t4 with ⟨hS0, h0⟩ | ⟨cap, arr, hS1, ha, hcap, hmax, hsz, hdr, hone⟩
  · rw [hS0]
    refine empty ?_ _ _
    simpa [strs] using h0
  · by_cases h0 : l = []
    · rw [hS1]
      subst h0
      exact empty rfl _ _
    · have hlen : (strs l).length = l.length := strs_len l
      rw [hS1, hlen]
      rw [hlen] at hcap
      have hb : g.B 0 < w.heap.size := (Array.getElem?_eq_some_iff.1 ha).1
      refine (Tryz.slices_Compact_string (g.B 0) 0 cap l w (holds_of ha hcap hsz hdr) (by omega) hcap).mono ?_
      rintro e w' ⟨rfl, n, rfl⟩
      have hcl := compact_len' l
      have hnn : g.S 0 ≠ .slice none 0 0 := by rw [hS1]; simp
      have hd : (Lib.compact l ++ List.replicate (l.length - (Lib.compact l).length) []).length = l.length := by simp; omega
      have hheap := put_heap w (g.B 0) arr 9 ha (Lib.compact l ++ List.replicate (l.length - (Lib.compact l).length) []).toArray n
      have hB := hheap (g.B 0) hb
      rw [if_pos rfl] at hB
      refine ⟨_, { g with nt := 0, C := fun x => g.C x ∨ x = g.B 0 }, rfl, .data ?_, ⟨hm.nb, rfl, hm.nm, ?_, ?_, ?_, ?_, fun h hh => ⟨?_, off0 _ _⟩⟩, ⟨fun b hb => by simp at hb, fun _ h => .inl h, rfl, rfl, rfl, by simp, fun h hh ho => ?_, fun h hh ho hc => ?_, fun _ _ _ => off0 _ _⟩⟩
      · have hlc : (strs (Lib.compact l)).length = (Lib.compact l).length := strs_len _
        have ev : Value.slice (some ⟨g.B 0, 0, none⟩) (Lib.compact l).length cap = Value.slice (some ⟨g.B 0, 0, none⟩) (strs (Lib.compact l)).length cap := by rw [hlc]
        rw [ev]
        refine .sl (strs (Lib.compact l)) (g.B 0) 0 cap 1 _ 9 (0, 0) (.inr rfl) hB (by omega) (fun x hx => allLen_strs' _ x hx) (by rw [putc_size]; omega) ?_ ?_
        · intro i x j u hx hu
          have hi : i < (Lib.compact l).length := by
            have := (List.getElem?_eq_some_iff.1 hx).1
            simpa using this
          rw [strs_at _ _ hi] at hx
          injection hx with hx
          subst hx
          have hj : j = 0 := by
            have := (List.getElem?_eq_some_iff.1 hu).1
            simpa using this
          subst hj
          simp only [List.getElem?_cons_zero, Option.some.injEq] at hu
          subst hu
          have e0 : 0 + i * 1 + 0 = i := by omega
          rw [e0, put_at _ _ i (by omega) (by omega), List.getElem_append_left hi]
          exact .str _
        · intro i hi
          rw [hlc] at hi
          have e0 : 0 + i = i := by omega
          rw [e0, put_at _ _ i (by omega) (by omega)]
          rfl
      · intro b cs h; simp [m0] at h
      · intro b cs h; simp [m0] at h
      · intro b cs h; simp [m0] at h
      · intro l l' hl; cases l <;> simp [Held, m0] at hl
      · rcases hh with hh | rfl
        · simpa using (hm.com h hh).1
        · simpa using hb
      · rw [hheap h hh, if_neg (offB h hnn ho)]
      · rcases hc with hc | hc
        · exact hc
        · exact absurd hc (offB h hnn ho)
end Go.Vm
