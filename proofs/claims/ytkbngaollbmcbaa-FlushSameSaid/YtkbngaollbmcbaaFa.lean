/- What the proof leans on: rules for a walk through the code, walks of functions, and plain laws. No condition. -/
import Derived.Test.YtkbngaollbmcbaaFc
import Derived.Shelf.Sort.Plain
import Derived.Shelf.Slices.In.SortNone
import Derived.Shelf.Spec.SlicesGrow
import Derived.Test.YtkbngaollbmcbaaProg
import Derived.Test.YtkbngaollbmcbaaFm

namespace Go.Proofs.Ytkbngaollbmcbaa.KK
open Go Go.RowKit

/-! ### Bytes as sets -/
def uand (x y : Nat) : Nat := (BitVec.ofNat 8 x &&& BitVec.ofNat 8 y).toNat
def uor (x y : Nat) : Nat := (BitVec.ofNat 8 x ||| BitVec.ofNat 8 y).toNat
def uandn (x y : Nat) : Nat := (BitVec.ofNat 8 x &&& ~~~ BitVec.ofNat 8 y).toNat
theorem uand_lt (x y : Nat) : uand x y < 256 := BitVec.isLt _
theorem uor_lt (x y : Nat) : uor x y < 256 := BitVec.isLt _
theorem uandn_lt (x y : Nat) : uandn x y < 256 := BitVec.isLt _
section
variable {P : Program} {n : Nat} {l : List (Nat × Value)} {w w' : World}
theorem wrap_u8 {z : Nat} (h : z < 256) : IntKind.u8.wrap (z : Int) = (z : Int) := by
  rw [IntKind.wrap_u8]; omega
theorem ib_and (a b : Nat) : Op.intBits .and .u8 (a : Int) (b : Int) = pure (.int .u8 (uand a b : Int)) := by
  show (pure (Value.int .u8 (IntKind.u8.wrap (((BitVec.ofInt 8 (a : Int) &&& BitVec.ofInt 8 (b : Int)).toNat : Nat) : Int))) : Sem Value) = _
  rw [BitVec.ofInt_natCast, BitVec.ofInt_natCast]
  exact congrArg (fun z => (pure (Value.int .u8 z) : Sem Value)) (wrap_u8 (uand_lt a b))
theorem f_u8and {x y : Operand} {d t u u2 p e g} {a b : Nat} (hx : evl l x = some (.int .u8 (a : Int))) (hy : evl l y = some (.int .u8 (b : Int))) : Fires P ⟨d, .binOp .and t x y u2, u, p, e, g⟩ n l w (.int .u8 (uand a b : Int)) w := fun ac F => by
  simp [execOp, F.eval hx, F.eval hy, eqGuard, binOp, ib_and]
theorem ib_or (a b : Nat) : Op.intBits .or .u8 (a : Int) (b : Int) = pure (.int .u8 (uor a b : Int)) := by
  show (pure (Value.int .u8 (IntKind.u8.wrap (((BitVec.ofInt 8 (a : Int) ||| BitVec.ofInt 8 (b : Int)).toNat : Nat) : Int))) : Sem Value) = _
  rw [BitVec.ofInt_natCast, BitVec.ofInt_natCast]
  exact congrArg (fun z => (pure (Value.int .u8 z) : Sem Value)) (wrap_u8 (uor_lt a b))
theorem f_u8or {x y : Operand} {d t u u2 p e g} {a b : Nat} (hx : evl l x = some (.int .u8 (a : Int))) (hy : evl l y = some (.int .u8 (b : Int))) : Fires P ⟨d, .binOp .or t x y u2, u, p, e, g⟩ n l w (.int .u8 (uor a b : Int)) w := fun ac F => by
  simp [execOp, F.eval hx, F.eval hy, eqGuard, binOp, ib_or]
theorem ib_andn (a b : Nat) : Op.intBits .andNot .u8 (a : Int) (b : Int) = pure (.int .u8 (uandn a b : Int)) := by
  show (pure (Value.int .u8 (IntKind.u8.wrap (((BitVec.ofInt 8 (a : Int) &&& ~~~ BitVec.ofInt 8 (b : Int)).toNat : Nat) : Int))) : Sem Value) = _
  rw [BitVec.ofInt_natCast, BitVec.ofInt_natCast]
  exact congrArg (fun z => (pure (Value.int .u8 z) : Sem Value)) (wrap_u8 (uandn_lt a b))
theorem f_u8andn {x y : Operand} {d t u u2 p e g} {a b : Nat} (hx : evl l x = some (.int .u8 (a : Int))) (hy : evl l y = some (.int .u8 (b : Int))) : Fires P ⟨d, .binOp .andNot t x y u2, u, p, e, g⟩ n l w (.int .u8 (uandn a b : Int)) w := fun ac F => by
  simp [execOp, F.eval hx, F.eval hy, eqGuard, binOp, ib_andn]
theorem f_u8shr {x y : Operand} {d t u u2 p e g} {k2 : IntKind} {a j : Nat} (ha : a < 256) (hj : j < 8) (hx : evl l x = some (.int .u8 (a : Int))) (hy : evl l y = some (.int k2 (j : Int))) : Fires P ⟨d, .binOp .shr t x y u2, u, p, e, g⟩ n l w (.int .u8 ((a / 2 ^ j : Nat) : Int)) w :=
  f_shr hx hy (by omega) (by
    have : min (j : Int).toNat IntKind.u8.bits = j := by rw [Int.toNat_natCast]; show min j 8 = j; omega
    rw [this, Int.fdiv_eq_ediv_of_nonneg _ (by exact Int.le_of_lt (Int.pow_pos (by decide)))]
    norm_cast)
end
end Go.Proofs.Ytkbngaollbmcbaa.KK

namespace Go.Proofs.Ytkbngaollbmcbaa.KK
open Go Go.RowKit Go.Proofs

def sortRen : Go.Shelf.Ren := ⟨fun | 189 => 33 | 125 => 61 | 257 => 60 | 128 => 91 | 129 => 92 | 294 => 82 | 295 => 83 | 296 => 84 | 297 => 85 | 298 => 86 | 299 => 87 | 216 => 88 | 300 => 89 | 301 => 90 | 328 => 106 | 329 => 107 | 330 => 108 | 331 => 109 | 332 => 110 | 215 => 71 | 343 => 125 | n => n, fun | 28 => 23 | 3 => 3 | 46 => 119 | 0 => 0 | 51 => 157 | 53 => 159 | 4 => 4 | 183 => 149 | 182 => 148 | 131 => 154 | 5 => 5 | 9 => 9 | 218 => 175 | 222 => 179 | 228 => 190 | 229 => 191 | n => n, fun | n => n⟩
theorem sortLays : Go.Proofs.Lays.n189 Try.prog sortRen := {
  mixed := by kernel_rfl,
  f125 := Try.func61.trans (congrArg some (by kernel_rfl)),
  f128 := Try.func91.trans (congrArg some (by kernel_rfl)),
  f129 := Try.func92.trans (congrArg some (by kernel_rfl)),
  f189 := Try.func33.trans (congrArg some (by kernel_rfl)),
  f215 := Try.func71.trans (congrArg some (by kernel_rfl)),
  f216 := Try.func88.trans (congrArg some (by kernel_rfl)),
  f257 := Try.func60.trans (congrArg some (by kernel_rfl)),
  f294 := Try.func82.trans (congrArg some (by kernel_rfl)),
  f295 := Try.func83.trans (congrArg some (by kernel_rfl)),
  f296 := Try.func84.trans (congrArg some (by kernel_rfl)),
  f297 := Try.func85.trans (congrArg some (by kernel_rfl)),
  f298 := Try.func86.trans (congrArg some (by kernel_rfl)),
  f299 := Try.func87.trans (congrArg some (by kernel_rfl)),
  f300 := Try.func89.trans (congrArg some (by kernel_rfl)),
  f301 := Try.func90.trans (congrArg some (by kernel_rfl)),
  f328 := Try.func106.trans (congrArg some (by kernel_rfl)),
  f329 := Try.func107.trans (congrArg some (by kernel_rfl)),
  f330 := Try.func108.trans (congrArg some (by kernel_rfl)),
  f331 := Try.func109.trans (congrArg some (by kernel_rfl)),
  f332 := Try.func110.trans (congrArg some (by kernel_rfl)),
  f343 := Try.func125.trans (congrArg some (by kernel_rfl)),
  t0 := Try.underlying0,
  a0 := Try.isAgg0,
  z0 := Try.sizeOf0,
  v0 := Try.zeroValue0,
  t3 := Try.underlying3,
  a3 := Try.isAgg3,
  z3 := Try.sizeOf3,
  v3 := Try.zeroValue3,
  t4 := Try.underlying4,
  a4 := Try.isAgg4,
  z4 := Try.sizeOf4,
  v4 := Try.zeroValue4,
  t5 := Try.underlying5,
  a5 := Try.isAgg5,
  z5 := Try.sizeOf5,
  v5 := Try.zeroValue5,
  t9 := Try.underlying9,
  a9 := Try.isAgg9,
  z9 := Try.sizeOf9,
  v9 := Try.zeroValue9,
  t28 := Try.underlying23,
  a28 := Try.isAgg23,
  z28 := Try.sizeOf23,
  v28 := Try.zeroValue23,
  t46 := Try.underlying119,
  a46 := Try.isAgg119,
  z46 := Try.sizeOf119,
  v46 := Try.zeroValue119,
  t51 := Try.underlying157,
  a51 := Try.isAgg157,
  z51 := Try.sizeOf157,
  v51 := Try.zeroValue157,
  t53 := Try.underlying159,
  a53 := Try.isAgg159,
  z53 := Try.sizeOf159,
  v53 := Try.zeroValue159,
  t131 := Try.underlying154,
  a131 := Try.isAgg154,
  z131 := Try.sizeOf154,
  v131 := Try.zeroValue154,
  t182 := Try.underlying148,
  a182 := Try.isAgg148,
  z182 := Try.sizeOf148,
  v182 := Try.zeroValue148,
  t183 := Try.underlying149,
  a183 := Try.isAgg149,
  z183 := Try.sizeOf149,
  v183 := Try.zeroValue149,
  t218 := Try.underlying175,
  a218 := Try.isAgg175,
  z218 := Try.sizeOf175,
  v218 := Try.zeroValue175,
  t222 := Try.underlying179,
  a222 := Try.isAgg179,
  z222 := Try.sizeOf179,
  v222 := Try.zeroValue179,
  t228 := Try.underlying190,
  a228 := Try.isAgg190,
  z228 := Try.sizeOf190,
  v228 := Try.zeroValue190,
  t229 := Try.underlying191,
  a229 := Try.isAgg191,
  z229 := Try.sizeOf191,
  v229 := Try.zeroValue191 }
def growRen : Go.Shelf.Ren := ⟨fun | 4 => 59 | n => n, fun | 22 => 23 | 25 => 3 | 3 => 3 | 4 => 4 | 9 => 9 | 20 => 20 | 0 => 0 | n => n, fun | n => n⟩
theorem growLays : Go.Proofs.Lays8.n4 Try.prog growRen := {
  mixed := by kernel_rfl,
  f4 := ⟨Try.f59.name, by decide, Try.func59.trans (congrArg some (by kernel_rfl))⟩,
  t0 := Try.underlying0,
  a0 := Try.isAgg0,
  z0 := Try.sizeOf0,
  v0 := Try.zeroValue0,
  t3 := Try.underlying3,
  a3 := Try.isAgg3,
  z3 := Try.sizeOf3,
  v3 := Try.zeroValue3,
  t4 := Try.underlying4,
  a4 := Try.isAgg4,
  z4 := Try.sizeOf4,
  v4 := Try.zeroValue4,
  t9 := Try.underlying9,
  a9 := Try.isAgg9,
  z9 := Try.sizeOf9,
  v9 := Try.zeroValue9,
  t20 := Try.underlying20,
  a20 := Try.isAgg20,
  z20 := Try.sizeOf20,
  v20 := Try.zeroValue20,
  t22 := Try.underlying23,
  a22 := Try.isAgg23,
  z22 := Try.sizeOf23,
  v22 := Try.zeroValue23 }

/-! ### Rows of ints -/
abbrev ivs (l : List Int) : List Value := l.map (Value.int .i64)
abbrev nvv (l : List Int) : Nat → Value := fun i => .int .i64 (l.getD i 0)
theorem Own.isl {w : World} {base c : Nat} {A : Option Addr} {l : List Int} (h : Own w base 3 1 A c (ivs l)) : Sl w base w.heap.size 1 A l.length c (nvv l) := by
  have := h.sl (f := nvv l) (fun i v hv => by simp at hv; obtain ⟨x, hx, rfl⟩ := hv; simp [nvv, hx])
  rwa [List.length_map] at this
theorem flat_ivs (l : List Int) : flatV (ivs l) = ivs l := by
  induction l with
  | nil => rfl
  | cons x l ih => simp only [flatV, ivs, List.map_cons, List.flatMap_cons] at ih ⊢; rw [ih]; rfl
theorem ivs_size (l : List Int) : ∀ v ∈ ivs l, v.cells.size = 1 := by
  intro v hv; obtain ⟨x, _, rfl⟩ := List.mem_map.1 hv; rfl
def sortI (l : List Int) : List Int := l.mergeSort fun x y => decide (x ≤ y)
theorem sortI_perm (l : List Int) : (sortI l).Perm l := List.mergeSort_perm _ _
theorem sort_c (A : Option Addr) (c base : Nat) (l : List Int) (w : World) (ho : Own w base 3 1 A c (ivs l)) (hn : l.length ≤ 1000) :
    Calls Try.prog 33 #[.slice A l.length c] w (Ret fun v w' => v = .tuple #[] ∧ Own w' base 3 1 A c (ivs (sortI l)) ∧ Kp (ob A) w w') := by
  rcases Nat.eq_zero_or_pos l.length with h0 | h0
  · obtain rfl := List.eq_nil_of_length_eq_zero h0
    refine (Any.slices_Sort_int_none sortLays A c w).mono fun e w' h => ?_
    obtain ⟨rfl, rfl⟩ := h
    exact ⟨rfl, by simpa [sortI] using ho, Kp.refl _ _⟩
  · obtain ⟨g, cur, rfl, hb, hblk, hc, hl, ht⟩ := ho.opens (by have := ho.2.2; simp at this; omega)
    rw [flat_ivs] at ht
    have hget : ∀ j, j < l.length → cur[j]? = some (.int .i64 (l.getD j 0)) := fun j hj => by
      have := congrArg (·[j]?) ht
      simp only [List.getElem?_take] at this
      rw [if_pos (by simp; omega)] at this
      rw [this]; simp [hj]
    have hH : Sort.Holds (Value.int .i64) w g 0 l.toArray := fun j hj => by
      have hj' : j < l.length := by simpa using hj
      refine ⟨?_, by rw [Nat.zero_add]; exact hblk.frozen j⟩
      rw [Nat.zero_add, hblk.cell, hget j hj']
      simp [hj']
    refine (Any.slices_Sort_int sortLays g 0 c l w hH hblk.lt (by omega)).mono fun e w' h => ?_
    obtain ⟨rfl, n, os, rfl⟩ := h
    have hsl : (sortI l).length = l.length := (sortI_perm l).length_eq
    have hB : Blk (Sort.grow (Sort.putRow (Value.int .i64) (Sort.ahead w n) g 0 (sortI l).toArray) os) g 3 (Sort.putCells (Value.int .i64) 0 (sortI l).toArray cur.toArray).toList := by
      unfold Blk Sort.grow Sort.putRow Sort.mapBlock
      have hlt := hblk.lt
      simp only [Sort.heap_ahead, Array.toArray_toList]
      rw [Array.getElem?_append_left (by simpa using hlt), Array.getElem?_modify, if_pos rfl]
      unfold Blk at hblk
      rw [hblk]; rfl
    refine ⟨rfl, Own.shuts hb hB hc (by rw [← hl]; simp [Sort.putCells]) ?_ (ivs_size _) (by have := ho.2.2; simp at this ⊢; omega), ⟨rfl, rfl, rfl, by simp [Sort.grow], fun k hk hm => ?_⟩⟩
    · rw [flat_ivs]
      apply List.ext_getElem?
      intro j
      rw [List.getElem?_take]
      by_cases hj : j < l.length
      · rw [if_pos (by simp; omega)]
        have hcl : j < cur.length := (List.getElem?_eq_some_iff.1 (hget j hj)).1
        simp [Sort.putCells, hcl, hsl, hj]
      · rw [if_neg (by simp; omega)]
        rw [List.getElem?_eq_none (by simp; omega)]
    · simp [ob] at hm
      simp only [Sort.grow, Sort.putRow, Sort.mapBlock]
      rw [Array.getElem?_append_left (by simpa using hk), Array.getElem?_modify, if_neg (by simpa using Ne.symm hm)]
      rfl
theorem grow_c (n : Nat) (hn : n ≤ 2000) (w : World) : Calls Try.prog 59 #[.slice none 0 0, .int .i64 (n : Int)] w (Ret fun v w' => ∃ A c, v = .slice A 0 c ∧ Own w' w.heap.size 3 1 A c [] ∧ Kp [] w w') := by
  rcases Nat.eq_zero_or_pos n with h0 | h0
  · subst h0
    refine (Any8.slices_Grow_room growLays none 0 0 0 w (by omega) (by omega) (by omega) (by omega)).mono fun e w' h => ?_
    obtain ⟨rfl, rfl⟩ := h
    exact ⟨none, 0, rfl, Own.nil _ _ _ _, Kp.refl _ _⟩
  · refine (Any8.slices_Grow_grow growLays Try.t3 (.int .i64 0) (by kernel_rfl) (by kernel_rfl) (by decide) none 0 0 n [] w (by omega) (by omega) (by show (0 + n) * 8 ≤ _; omega) (by omega) (by simp) (by simp) (by simp)).mono fun e w' h => ?_
    obtain ⟨rfl, rfl⟩ := h
    have hge := grownCap_ge w (0 + n) 0 3
    have hle := grownCap_le_maxLen w (0 + n) 0 3 (by unfold maxLen; omega)
    refine ⟨some ⟨w.heap.size, 0, none⟩, grownCap w (0 + n) 0 3, rfl, ?_, (Kp.drew w).trans (Kp.alloc w.drew _) (by simp)⟩
    refine Own.shuts (Nat.le_refl _) (cur := (#[] ++ Builtin.zeroCells (Value.int .i64 0).cells (0 + n - 0) ++ Builtin.zeroCells (Value.int .i64 0).cells (grownCap w (0 + n) 0 3 - (0 + n))).toList) ?_ hle ?_ (by simp) (by simp) (Nat.zero_le _)
    · unfold Blk
      rw [Array.toArray_toList]
      show ((w.drew).alloc _).heap[(w.drew).heap.size]? = _
      exact heap_alloc_new _ _
    · simp [Builtin.zeroCells, Value.cells] at hge ⊢; omega
end Go.Proofs.Ytkbngaollbmcbaa.KK
namespace Go.Proofs.Ytkbngaollbmcbaa.KK
open Go Go.RowKit Go.Proofs
/-! ### What flush keeps -/
structure Ri where
  A : Option Addr
  c : Nat
  l : List Int
instance : Inhabited Ri := ⟨⟨none, 0, []⟩⟩
abbrev Ri.v (r : Ri) : Value := .slice r.A r.l.length r.c
def rows6 (R : Nat → Ri) : List Value := [(R 0).v, (R 1).v, (R 2).v, (R 3).v, (R 4).v, (R 5).v]
def flL (num : Int) (mem gone : Nat) (R : Nat → Ri) : List Value := [.int .i64 num, .int .u8 (mem : Int), .int .u8 (gone : Int), (R 0).v, (R 1).v, (R 2).v, (R 3).v, (R 4).v, (R 5).v]
theorem flL_len {num : Int} {mem gone : Nat} {R : Nat → Ri} : (flL num mem gone R).length = 9 := rfl
theorem rows6_len {R : Nat → Ri} : (rows6 R).length = 6 := rfl
theorem six_of {p : Nat} (hp : p < 6) : p = 0 ∨ p = 1 ∨ p = 2 ∨ p = 3 ∨ p = 4 ∨ p = 5 := by omega
theorem fl_get {num : Int} {mem gone p o : Nat} {R : Nat → Ri} (hp : p < 6) (ho : o = 3 + p * 1) : (flL num mem gone R)[o]? = some (R p).v := by
  subst ho; rcases six_of hp with rfl | rfl | rfl | rfl | rfl | rfl <;> rfl
theorem r6_get {p o : Nat} {R : Nat → Ri} (hp : p < 6) (ho : o = p * 1) : (rows6 R)[o]? = some (R p).v := by
  subst ho; rcases six_of hp with rfl | rfl | rfl | rfl | rfl | rfl <;> rfl
theorem fl_put {num : Int} {mem gone p o : Nat} {R : Nat → Ri} {r : Ri} (hp : p < 6) (ho : o = 3 + p * 1) : lay (flL num mem gone R) o [r.v] = flL num mem gone (upd R p r) := by
  subst ho; rcases six_of hp with rfl | rfl | rfl | rfl | rfl | rfl <;> rfl
theorem r6_put {p o : Nat} {R : Nat → Ri} {r : Ri} (hp : p < 6) (ho : o = p * 1) : lay (rows6 R) o [r.v] = rows6 (upd R p r) := by
  subst ho; rcases six_of hp with rfl | rfl | rfl | rfl | rfl | rfl <;> rfl
def VOk (num : Int) (mem : Nat) : Prop := 0 ≤ num ∧ num ≤ 16777215 ∧ mem ≠ 0 ∧ mem / 2 ^ 6 = 0
def RowOk (mem p : Nat) (l : List Int) : Prop := l.length ≤ 30 ∧ (0 < l.length → uand (mem / 2 ^ p) 1 ≠ 0) ∧ ∀ i, i < l.length → (0 ≤ l.getD i 0 ∧ l.getD i 0 ≤ 29) ∧ ∀ j, j < i → l.getD j 0 ≠ l.getD i 0
def OkF (num : Int) (mem gone : Nat) (L : Nat → List Int) : Prop := VOk num mem ∧ uandn gone mem = 0 ∧ ∀ p : Nat, p < 6 → RowOk mem p (L p)
/-- math/bits.OnesCount8's table. -/
def pop8 (x : Nat) : Nat := x % 2 + x / 2 % 2 + x / 4 % 2 + x / 8 % 2 + x / 16 % 2 + x / 32 % 2 + x / 64 % 2 + x / 128 % 2
structure NX where
  e : Int
  num : Int
  mem : Nat
def nextR (num : Int) (mem gone come : Nat) : NX :=
  if ¬ (0 ≤ num ∧ num ≤ 16777215 ∧ mem ≠ 0 ∧ mem / 2 ^ 6 = 0) then ⟨1, 0, 0⟩
  else if uor gone come / 2 ^ 6 ≠ 0 ∨ uand gone come ≠ 0 then ⟨1, 0, 0⟩
  else if num = 16777215 then ⟨8, 0, 0⟩
  else if ¬ (pop8 mem < 2 * pop8 (uand (uandn mem gone) mem)) then ⟨11, 0, 0⟩
  else ⟨0, num + 1, uor (uandn mem gone) come⟩
theorem uand1 (x : Nat) : uand x 1 = 0 ∨ uand x 1 = 1 := by
  have h : ∀ b : BitVec 8, (b &&& BitVec.ofNat 8 1).toNat = 0 ∨ (b &&& BitVec.ofNat 8 1).toNat = 1 := by decide +kernel
  exact h _
end Go.Proofs.Ytkbngaollbmcbaa.KK

namespace Go.Proofs.Ytkbngaollbmcbaa.KK
open Go Go.RowKit

set_option maxHeartbeats 4000000 in
theorem index_c (A : Option Addr) (n c lo hi : Nat) (t : List Int) (x : Int) (w0 : World) (hl : Sl w0 lo hi 1 A n c (nvv t)) (hn : n < 4611686018427387904) : Calls Try.prog 45 #[.slice A n c, .int .i64 x] w0 (Ret fun v w' => ∃ r : Int, v = .int .i64 r ∧ Kp [] w0 w' ∧ (0 ≤ r ↔ ∃ i, i < n ∧ t.getD i 0 = x)) := by
  refine enter (n := 19) Try.func45 rfl rfl rfl (fun ac F => ?_)
  have kp0 := Kp.refl ([] : List Nat) w0
  refine c_seq (fun K1 H2 => ?_)
  refine c_region ?_
  refine stp F (f_assign rfl) rfl rfl rfl (fun ac F => ?_)
  refine stpEnd ?_
  refine H2 _ _ ?_
  refine c_seq (fun K3 H4 => ?_)
  refine c_seq (fun K5 H6 => ?_)
  refine c_region ?_
  refine stp F (f_move rfl) rfl rfl rfl (fun ac F => ?_)
  refine stp F (f_len rfl Try.underlying23) rfl rfl rfl (fun ac F => ?_)
  refine stp F (f_move rfl) rfl rfl rfl (fun ac F => ?_)
  refine stpEnd ?_
  refine H6 _ _ ?_
  refine wp_block ?_
  refine c_loop (fun mx ax wx => ∃ (k : Nat), Fr ax 19 [(0, .slice A n c), (1, .int .i64 x), (6, .slice A n c), (7, .int .i64 (n : Int)), (8, .int .i64 (k : Int))] ∧ Kp [] w0 wx ∧ Sl wx lo hi 1 A n c (nvv t) ∧ (k ≤ n) ∧ (∀ i, i < k → t.getD i 0 ≠ x) ∧ mx = n - k) (n - 0) ?_ ?_
  · exact ⟨0, F.sub ⟨rfl, rfl, rfl, rfl, rfl, trivial⟩, kp0, hl, by omega, fun i hi => by omega, rfl⟩
  · clear F kp0 hl
    rintro m8 ac wl7 ⟨k, F, kp0, hl, hk, hno, hm⟩
    have hsz := kp0.size
    refine c_seq (fun K9 H10 => ?_)
    refine c_region ?_
    refine stp F (f_lss rfl rfl) rfl rfl rfl (fun ac F => ?_)
    refine stpEnd ?_
    refine H10 _ _ ?_
    refine c_seq (fun K11 H12 => ?_)
    by_cases hc13 : (k : Int) < (n : Int)
    · have hc := hc13
      replace F := F.setb (k := 9) (b' := true) rfl (decide_eq_true hc)
      clear hc
      refine c_true F rfl ?_
      refine wp_skip ?_
      refine H12 _ _ ?_
      refine c_seq (fun K14 H15 => ?_)
      refine wp_block ?_
      refine c_seq (fun K16 H17 => ?_)
      refine c_region ?_
      refine stp F (f_move rfl) rfl rfl rfl (fun ac F => ?_)
      refine stp F (f_assign rfl) rfl rfl rfl (fun ac F => ?_)
      refine stpEnd ?_
      refine H17 _ _ ?_
      refine c_seq (fun K18 H19 => ?_)
      refine c_region ?_
      refine stp F (f_move rfl) rfl rfl rfl (fun ac F => ?_)
      refine stp F (f_move rfl) rfl rfl rfl (fun ac F => ?_)
      refine stp F (f_move rfl) rfl rfl rfl (fun ac F => ?_)
      refine stp F (f_indexS (r := ((adr A).add (k * 1))) rfl rfl Try.underlying23 Try.sizeOf3 (by omega) (by omega) (hl.some_ (by omega)).1 (by rw [show Int.toNat (k : Int) = k from by omega])) rfl rfl rfl (fun ac F => ?_)
      refine stp F (f_load1 (v := .int .i64 (t.getD k 0)) rfl Try.isAgg3 (hl.cell1 (i := k) (by omega) rfl rfl)) rfl rfl rfl (fun ac F => ?_)
      refine stp F (f_eql rfl rfl) rfl rfl rfl (fun ac F => ?_)
      refine stpEnd ?_
      refine H19 _ _ ?_
      by_cases hc20 : x = t.getD k 0
      · have hc := hc20
        replace F := F.setb (k := 16) (b' := true) rfl (decide_eq_true hc)
        clear hc
        refine c_true F rfl ?_
        refine c_seq (fun K21 H22 => ?_)
        refine c_region ?_
        refine stp F (f_move rfl) rfl rfl rfl (fun ac F => ?_)
        refine stp F (f_assign rfl) rfl rfl rfl (fun ac F => ?_)
        refine stpEnd ?_
        refine H22 _ _ ?_
        refine wp_ret ?_
        refine ret1 F rfl rfl ?_
        exact ⟨_, rfl, kp0, ⟨fun _ => ⟨k, by omega, hc20.symm⟩, fun _ => by omega⟩⟩
      · have hc := hc20
        replace F := F.setb (k := 16) (b' := false) rfl (decide_eq_false hc)
        clear hc
        refine c_false F rfl ?_
        refine wp_skip ?_
        refine H15 _ _ ?_
        refine c_region ?_
        refine stp F (f_add (r := ((k + 1 : Nat) : Int)) rfl rfl (by rw [IntKind.wrap_i64]; omega)) rfl rfl rfl (fun ac F => ?_)
        refine stp F (f_move rfl) rfl rfl rfl (fun ac F => ?_)
        refine stpEnd ?_
        refine ⟨n - (k + 1), ?_, (k + 1), F.sub ⟨rfl, rfl, rfl, rfl, rfl, trivial⟩, kp0, hl, by omega, fun i hi => by by_cases e : i = k; (subst e; exact fun e2 => hc20 e2.symm); exact hno i (by omega), rfl⟩
        omega
    · have hc := hc13
      replace F := F.setb (k := 9) (b' := false) rfl (decide_eq_false hc)
      clear hc
      refine c_false F rfl ?_
      refine wp_exit ?_
      refine H4 _ _ ?_
      refine c_seq (fun K23 H24 => ?_)
      refine c_region ?_
      refine stp F (f_assign rfl) rfl rfl rfl (fun ac F => ?_)
      refine stpEnd ?_
      refine H24 _ _ ?_
      refine wp_ret ?_
      refine ret1 F rfl rfl ?_
      exact ⟨_, rfl, kp0, ⟨fun h => absurd h (by decide), fun ⟨i, h1, h2⟩ => absurd h2 (hno i (by omega))⟩⟩

set_option maxHeartbeats 4000000 in
theorem contains_c (A : Option Addr) (n c lo hi : Nat) (t : List Int) (x : Int) (w0 : World) (hl : Sl w0 lo hi 1 A n c (nvv t)) (hn : n < 4611686018427387904) : Calls Try.prog 10 #[.slice A n c, .int .i64 x] w0 (Ret fun v w' => ∃ b : Bool, v = .bool b ∧ (b = true ↔ ∃ i, i < n ∧ t.getD i 0 = x) ∧ Kp [] w0 w') := by
  refine enter (n := 9) Try.func10 rfl rfl rfl (fun ac F => ?_)
  have kp0 := Kp.refl ([] : List Nat) w0
  refine c_seq (fun K1 H2 => ?_)
  refine c_region ?_
  refine stp F (f_assign rfl) rfl rfl rfl (fun ac F => ?_)
  refine stpEnd ?_
  refine H2 _ _ ?_
  refine c_seq (fun K3 H4 => ?_)
  refine c_region ?_
  refine stp F (f_move rfl) rfl rfl rfl (fun ac F => ?_)
  refine stp F (f_move rfl) rfl rfl rfl (fun ac F => ?_)
  refine stpC F (f_call (P := Try.prog) (f := 45) (vs := [.slice A n c, .int .i64 x]) rfl Try.call45) (index_c A n c lo hi t x _ hl hn) rfl rfl rfl ?_
  rintro _ w5 ac ⟨r, rfl, kq6, hr⟩ F
  have hsz := (kq6).size
  replace hl := hl.keep (kq6) (by simp)
  replace kp0 := kp0.trans (kq6) (by simp)
  refine stp F (f_geq rfl rfl) rfl rfl rfl (fun ac F => ?_)
  refine stp F (f_assign rfl) rfl rfl rfl (fun ac F => ?_)
  refine stpEnd ?_
  refine H4 _ _ ?_
  refine wp_ret ?_
  refine ret1 F rfl rfl ?_
  exact ⟨_, rfl, by rw [decide_eq_true_eq]; exact hr, kp0⟩

theorem list_ext0 {a b : List Int} (h : a.length = b.length) (he : ∀ i, i < a.length → a.getD i 0 = b.getD i 0) : a = b := by
  apply List.ext_getElem h
  intro i h1 h2
  have := he i h1
  simpa [h1, h2] using this

set_option maxHeartbeats 4000000 in
theorem equal_c (A B : Option Addr) (c e lo hi lo2 hi2 : Nat) (a b : List Int) (w0 : World) (hl : Sl w0 lo hi 1 A a.length c (nvv a)) (hl2 : Sl w0 lo2 hi2 1 B b.length e (nvv b)) (hn : a.length < 4611686018427387904) : Calls Try.prog 8 #[.slice A a.length c, .slice B b.length e] w0 (Ret fun v w' => v = .bool (decide (a = b)) ∧ Kp [] w0 w') := by
  refine enter (n := 26) Try.func8 rfl rfl rfl (fun ac F => ?_)
  have kp0 := Kp.refl ([] : List Nat) w0
  refine c_seq (fun K1 H2 => ?_)
  refine c_region ?_
  refine stp F (f_assign rfl) rfl rfl rfl (fun ac F => ?_)
  refine stpEnd ?_
  refine H2 _ _ ?_
  refine c_seq (fun K3 H4 => ?_)
  refine c_seq (fun K5 H6 => ?_)
  refine c_region ?_
  refine stp F (f_move rfl) rfl rfl rfl (fun ac F => ?_)
  refine stp F (f_len rfl Try.underlying23) rfl rfl rfl (fun ac F => ?_)
  refine stp F (f_move rfl) rfl rfl rfl (fun ac F => ?_)
  refine stp F (f_len rfl Try.underlying23) rfl rfl rfl (fun ac F => ?_)
  refine stp F (f_neq rfl rfl) rfl rfl rfl (fun ac F => ?_)
  refine stpEnd ?_
  refine H6 _ _ ?_
  by_cases hc7 : ((a.length : Nat) : Int) = ((b.length : Nat) : Int)
  · have hc := hc7
    replace F := F.setb (k := 10) (b' := false) rfl (nt (decide_eq_true hc))
    clear hc
    refine c_false F rfl ?_
    refine wp_skip ?_
    refine H4 _ _ ?_
    refine c_seq (fun K8 H9 => ?_)
    refine c_seq (fun K10 H11 => ?_)
    refine c_region ?_
    refine stp F (f_move rfl) rfl rfl rfl (fun ac F => ?_)
    refine stp F (f_len rfl Try.underlying23) rfl rfl rfl (fun ac F => ?_)
    refine stp F (f_move rfl) rfl rfl rfl (fun ac F => ?_)
    refine stpEnd ?_
    refine H11 _ _ ?_
    refine wp_block ?_
    refine c_loop (fun mx ax wx => ∃ (k : Nat), Fr ax 26 [(0, .slice A a.length c), (1, .slice B b.length e), (11, .slice A a.length c), (12, .int .i64 ((a.length : Nat) : Int)), (13, .int .i64 (k : Int))] ∧ Kp [] w0 wx ∧ Sl wx lo hi 1 A a.length c (nvv a) ∧ Sl wx lo2 hi2 1 B b.length e (nvv b) ∧ (k ≤ a.length) ∧ (∀ i, i < k → a.getD i 0 = b.getD i 0) ∧ mx = a.length - k) (a.length - 0) ?_ ?_
    · exact ⟨0, F.sub ⟨rfl, rfl, rfl, rfl, rfl, trivial⟩, kp0, hl, hl2, by omega, fun i hi => by omega, rfl⟩
    · clear F kp0 hl hl2
      rintro m13 ac wl12 ⟨k, F, kp0, hl, hl2, hk, hno, hm⟩
      have hsz := kp0.size
      have hlen : a.length = b.length := by omega
      refine c_seq (fun K14 H15 => ?_)
      refine c_region ?_
      refine stp F (f_lss rfl rfl) rfl rfl rfl (fun ac F => ?_)
      refine stpEnd ?_
      refine H15 _ _ ?_
      refine c_seq (fun K16 H17 => ?_)
      by_cases hc18 : (k : Int) < ((a.length : Nat) : Int)
      · have hc := hc18
        replace F := F.setb (k := 14) (b' := true) rfl (decide_eq_true hc)
        clear hc
        refine c_true F rfl ?_
        refine wp_skip ?_
        refine H17 _ _ ?_
        refine c_seq (fun K19 H20 => ?_)
        refine wp_block ?_
        refine c_seq (fun K21 H22 => ?_)
        refine c_region ?_
        refine stp F (f_move rfl) rfl rfl rfl (fun ac F => ?_)
        refine stp F (f_assign rfl) rfl rfl rfl (fun ac F => ?_)
        refine stpEnd ?_
        refine H22 _ _ ?_
        refine c_seq (fun K23 H24 => ?_)
        refine c_draw 9 (by rfl) (by decide +kernel) (fun wx => Kp [] wl12 wx) (Kp.drew _) ?_
        refine tP F rfl (fun wq => f_move rfl) rfl rfl rfl (fun ac F => ?_)
        refine tP F rfl (fun wq => f_move rfl) rfl rfl rfl (fun ac F => ?_)
        refine tP F rfl (fun wq => f_indexS (r := ((adr A).add (k * 1))) rfl rfl Try.underlying23 Try.sizeOf3 (by omega) (by omega) (hl.some_ (by omega)).1 (by rw [show Int.toNat (k : Int) = k from by omega])) rfl rfl rfl (fun ac F => ?_)
        refine tQ F rfl (fun wq hq => f_load1 (v := .int .i64 (a.getD k 0)) rfl Try.isAgg3 ((hl.keep hq (by simp)).cell1 (i := k) (by omega) rfl rfl)) rfl rfl rfl (fun ac F => ?_)
        refine tP F rfl (fun wq => f_move rfl) rfl rfl rfl (fun ac F => ?_)
        refine tP F rfl (fun wq => f_move rfl) rfl rfl rfl (fun ac F => ?_)
        refine tP F rfl (fun wq => f_indexS (r := ((adr B).add (k * 1))) rfl rfl Try.underlying23 Try.sizeOf3 (by omega) (by omega) (hl2.some_ (by omega)).1 (by rw [show Int.toNat (k : Int) = k from by omega])) rfl rfl rfl (fun ac F => ?_)
        refine tQ F rfl (fun wq hq => f_load1 (v := .int .i64 (b.getD k 0)) rfl Try.isAgg3 ((hl2.keep hq (by simp)).cell1 (i := k) (by omega) rfl rfl)) rfl rfl rfl (fun ac F => ?_)
        refine tP F rfl (fun wq => f_neq rfl rfl) rfl rfl rfl (fun ac F => ?_)
        refine tEnd (fun w25 hq => ?_)
        have hsz := hq.size
        replace hl := hl.keep hq (by simp)
        replace hl2 := hl2.keep hq (by simp)
        replace kp0 := kp0.trans hq (by simp)
        refine H24 _ _ ?_
        by_cases hc26 : a.getD k 0 = b.getD k 0
        · have hc := hc26
          replace F := F.setb (k := 24) (b' := false) rfl (nt (decide_eq_true hc))
          clear hc
          refine c_false F rfl ?_
          refine wp_skip ?_
          refine H20 _ _ ?_
          refine c_region ?_
          refine stp F (f_add (r := ((k + 1 : Nat) : Int)) rfl rfl (by rw [IntKind.wrap_i64]; omega)) rfl rfl rfl (fun ac F => ?_)
          refine stp F (f_move rfl) rfl rfl rfl (fun ac F => ?_)
          refine stpEnd ?_
          refine ⟨a.length - (k + 1), ?_, (k + 1), F.sub ⟨rfl, rfl, rfl, rfl, rfl, trivial⟩, kp0, hl, hl2, by omega, fun i hi => by by_cases e : i = k; (subst e; exact hc26); exact hno i (by omega), rfl⟩
          omega
        · have hc := hc26
          replace F := F.setb (k := 24) (b' := true) rfl (nf (decide_eq_false hc))
          clear hc
          refine c_true F rfl ?_
          refine c_seq (fun K27 H28 => ?_)
          refine c_region ?_
          refine stp F (f_assign rfl) rfl rfl rfl (fun ac F => ?_)
          refine stpEnd ?_
          refine H28 _ _ ?_
          refine wp_ret ?_
          refine ret1 F rfl rfl ?_
          exact ⟨by rw [decide_eq_false (fun e => hc26 (by rw [e]))], kp0⟩
      · have hc := hc18
        replace F := F.setb (k := 14) (b' := false) rfl (decide_eq_false hc)
        clear hc
        refine c_false F rfl ?_
        refine wp_exit ?_
        refine H9 _ _ ?_
        refine c_seq (fun K29 H30 => ?_)
        refine c_region ?_
        refine stp F (f_assign rfl) rfl rfl rfl (fun ac F => ?_)
        refine stpEnd ?_
        refine H30 _ _ ?_
        refine wp_ret ?_
        refine ret1 F rfl rfl ?_
        exact ⟨by rw [decide_eq_true (list_ext0 (by omega) (fun i hi => hno i (by omega)))], kp0⟩
  · have hc := hc7
    replace F := F.setb (k := 10) (b' := true) rfl (nf (decide_eq_false hc))
    clear hc
    refine c_true F rfl ?_
    refine c_seq (fun K31 H32 => ?_)
    refine c_region ?_
    refine stp F (f_assign rfl) rfl rfl rfl (fun ac F => ?_)
    refine stpEnd ?_
    refine H32 _ _ ?_
    refine wp_ret ?_
    refine ret1 F rfl rfl ?_
    exact ⟨by rw [decide_eq_false (fun e => hc7 (by rw [e]))], kp0⟩

theorem iv_rd {w : World} {lo hi c : Nat} {ad : Addr} {l : List Int} (h : Sl w lo hi 1 (some ad) l.length c (nvv l)) : ∀ k u, (ivs l)[k]? = some u → RdAt w (ad.add (k * 1)) 1 u := by
  intro k u hu
  simp at hu
  obtain ⟨m, hm, rfl⟩ := hu
  have hk : k < l.length := (List.getElem?_eq_some_iff.1 hm).1
  have := h.at_ k hk
  simpa [adr, nvv, hm] using this
theorem iv_one (l : List Int) : ∀ v ∈ ivs l, ∀ u ∈ v.cells.toList, u.oneCell' = true := by
  intro v hv u hu
  obtain ⟨m, _, rfl⟩ := List.mem_map.1 hv
  simp [Value.cells] at hu
  rw [hu]; rfl

set_option maxHeartbeats 4000000 in
theorem iclone_c (A : Option Addr) (c : Nat) (l : List Int) (w0 : World) (hh : Sl w0 0 w0.heap.size 1 A l.length c (nvv l)) (hn : l.length ≤ 4294967296) : Calls Try.prog 22 #[.slice A l.length c] w0 (Ret fun v w' => ∃ A' c', v = .slice A' l.length c' ∧ Kp [] w0 w' ∧ Own w' w0.heap.size 3 1 A' c' (ivs l) ∧ (A = none → A' = none ∧ c' = 0)) := by
  refine enter (n := 8) Try.func22 rfl rfl rfl (fun ac F => ?_)
  have kp0 := Kp.refl ([] : List Nat) w0
  refine c_seq (fun K1 H2 => ?_)
  refine c_region ?_
  refine stp F (f_assign rfl) rfl rfl rfl (fun ac F => ?_)
  refine stpEnd ?_
  refine H2 _ _ ?_
  refine c_seq (fun K3 H4 => ?_)
  refine c_seq (fun K5 H6 => ?_)
  refine c_region ?_
  refine stp F (f_move rfl) rfl rfl rfl (fun ac F => ?_)
  refine stp F (f_eqNil rfl Try.underlying23) rfl rfl rfl (fun ac F => ?_)
  refine stpEnd ?_
  refine H6 _ _ ?_
  by_cases hc7 : (Option.isNone A) = true
  · have hc := hc7
    replace F := F.setb (k := 4) (b' := true) rfl (hc)
    clear hc
    refine c_true F rfl ?_
    refine c_seq (fun K8 H9 => ?_)
    refine c_region ?_
    refine stp F (f_assign rfl) rfl rfl rfl (fun ac F => ?_)
    refine stpEnd ?_
    refine H9 _ _ ?_
    refine wp_ret ?_
    refine ret1 F rfl rfl ?_
    have hn0 : l.length = 0 := by rcases Nat.eq_zero_or_pos l.length with h | h; exact h; have := (hh.some_ h).1; rw [this] at hc7; cases hc7
    have hm0 : l = [] := List.eq_nil_of_length_eq_zero hn0
    subst hm0
    exact ⟨none, 0, rfl, kp0, Own.nil _ _ _ _, fun _ => ⟨rfl, rfl⟩⟩
  · have hc := hc7
    replace F := F.setb (k := 4) (b' := false) rfl (Bool.eq_false_iff.2 hc)
    clear hc
    refine c_false F rfl ?_
    refine wp_skip ?_
    refine H4 _ _ ?_
    refine c_seq (fun K10 H11 => ?_)
    refine c_region ?_
    refine stpE F (f_buildSlice (el := 3) (vs := []) (cs := []) rfl (fun w => by kernel_rfl)) rfl rfl rfl ?_
    rintro _ w13 ac ⟨g12, rfl, nb14⟩ F
    have n16 := nb14.num
    have z17 := nb14.size
    have hsz := (nb14.kp).size
    replace hh := hh.keep (nb14.kp) (by simp)
    replace kp0 := kp0.trans (nb14.kp) (by simp)
    have hb15 : Blk w13 g12 3 ([]) := nb14.blk
    refine stp F (f_move rfl) rfl rfl rfl (fun ac F => ?_)
    obtain ⟨ad, rfl⟩ : ∃ ad, A = some ad := Option.isSome_iff_exists.1 (by cases hA0 : A <;> simp_all)
    have hown : Own w13 w0.heap.size 3 1 (some ⟨g12, 0, none⟩) 0 [] := Own.of_blk0 hb15 (by omega)
    refine stpE F (f_appendN (sz := 1) (vs := []) (us := ivs l) (bytes := 8) (z := .int .i64 0) rfl (show evl _ _ = some (.slice (some ad) (ivs l).length c) from by simp [evl, lk]) Try.underlying23 (i := Try.t3) (by kernel_rfl) (by kernel_rfl) rfl rfl rfl (by decide) hown (iv_rd hh) (iv_one l) (by simp; omega) (by simp; omega) (by omega) (.inr rfl)) rfl rfl rfl ?_
    rintro _ w18 ac ⟨A21, c22, rfl, ho19, kq20, hbl⟩ F
    have hsz := kq20.size
    replace kp0 := kp0.trans kq20 (by intro x hx hl; have := hown.base_le x hx; omega)
    refine stp F (f_assign rfl) rfl rfl rfl (fun ac F => ?_)
    refine stpEnd ?_
    refine H11 _ _ ?_
    refine wp_ret ?_
    refine ret1 F rfl rfl ?_
    exact ⟨A21, c22, by simp, kp0, by simpa using ho19, fun h => by cases h⟩

set_option maxHeartbeats 4000000 in
theorem compact_c (A : Option Addr) (c lo hi : Nat) (l : List Int) (w0 : World) (hh : Sl w0 lo hi 1 A l.length c (nvv l)) (hn : l.length ≤ 4294967296) (hd : ∀ k, 1 ≤ k → k < l.length → l.getD k 0 ≠ l.getD (k - 1) 0) : Calls Try.prog 34 #[.slice A l.length c] w0 (Ret fun v w' => v = .slice A l.length c ∧ Kp [] w0 w') := by
  refine enter (n := 61) Try.func34 rfl rfl rfl (fun ac F => ?_)
  have kp0 := Kp.refl ([] : List Nat) w0
  refine c_seq (fun K1 H2 => ?_)
  refine c_region ?_
  refine stp F (f_assign rfl) rfl rfl rfl (fun ac F => ?_)
  refine stpEnd ?_
  refine H2 _ _ ?_
  refine c_seq (fun K3 H4 => ?_)
  refine c_seq (fun K5 H6 => ?_)
  refine c_region ?_
  refine stp F (f_move rfl) rfl rfl rfl (fun ac F => ?_)
  refine stp F (f_len rfl Try.underlying23) rfl rfl rfl (fun ac F => ?_)
  refine stp F (f_lss rfl rfl) rfl rfl rfl (fun ac F => ?_)
  refine stpEnd ?_
  refine H6 _ _ ?_
  by_cases hc7 : ((l.length : Nat) : Int) < 2
  · have hc := hc7
    replace F := F.setb (k := 8) (b' := true) rfl (decide_eq_true hc)
    clear hc
    refine c_true F rfl ?_
    refine c_seq (fun K8 H9 => ?_)
    refine c_region ?_
    refine stp F (f_move rfl) rfl rfl rfl (fun ac F => ?_)
    refine stp F (f_assign rfl) rfl rfl rfl (fun ac F => ?_)
    refine stpEnd ?_
    refine H9 _ _ ?_
    refine wp_ret ?_
    refine ret1 F rfl rfl ?_
    exact ⟨rfl, kp0⟩
  · have hc := hc7
    replace F := F.setb (k := 8) (b' := false) rfl (decide_eq_false hc)
    clear hc
    refine c_false F rfl ?_
    refine wp_skip ?_
    refine H4 _ _ ?_
    refine c_seq (fun K10 H11 => ?_)
    refine c_seq (fun K12 H13 => ?_)
    refine c_region ?_
    refine stp F (f_assign rfl) rfl rfl rfl (fun ac F => ?_)
    refine stpEnd ?_
    refine H13 _ _ ?_
    refine wp_block ?_
    refine c_loop (fun mx ax wx => ∃ (k : Nat), Fr ax 61 [(0, .slice A l.length c), (3, .int .i64 (k : Int))] ∧ Kp [] w0 wx ∧ Sl wx lo hi 1 A l.length c (nvv l) ∧ (1 ≤ k ∧ k ≤ l.length) ∧ mx = l.length - k) (l.length - 1) ?_ ?_
    · exact ⟨1, F.sub ⟨rfl, rfl, trivial⟩, kp0, hh, by omega, rfl⟩
    · clear F kp0 hh
      rintro m15 ac wl14 ⟨k, F, kp0, hh, hk, hm⟩
      have hsz := kp0.size
      refine c_seq (fun K16 H17 => ?_)
      refine c_seq (fun K18 H19 => ?_)
      refine c_region ?_
      refine stp F (f_move rfl) rfl rfl rfl (fun ac F => ?_)
      refine stp F (f_move rfl) rfl rfl rfl (fun ac F => ?_)
      refine stp F (f_len rfl Try.underlying23) rfl rfl rfl (fun ac F => ?_)
      refine stp F (f_lss rfl rfl) rfl rfl rfl (fun ac F => ?_)
      refine stpEnd ?_
      refine H19 _ _ ?_
      by_cases hc20 : (k : Int) < ((l.length : Nat) : Int)
      · have hc := hc20
        replace F := F.setb (k := 13) (b' := true) rfl (decide_eq_true hc)
        clear hc
        refine c_true F rfl ?_
        refine wp_skip ?_
        refine H17 _ _ ?_
        refine c_seq (fun K21 H22 => ?_)
        refine wp_block ?_
        refine c_seq (fun K23 H24 => ?_)
        refine c_draw 10 (by rfl) (by decide +kernel) (fun wx => Kp [] wl14 wx) (Kp.drew _) ?_
        refine tP F rfl (fun wq => f_move rfl) rfl rfl rfl (fun ac F => ?_)
        refine tP F rfl (fun wq => f_move rfl) rfl rfl rfl (fun ac F => ?_)
        refine tP F rfl (fun wq => f_indexS (r := ((adr A).add (k * 1))) rfl rfl Try.underlying23 Try.sizeOf3 (by omega) (by omega) (hh.some_ (by omega)).1 (by rw [show Int.toNat (k : Int) = k from by omega])) rfl rfl rfl (fun ac F => ?_)
        refine tQ F rfl (fun wq hq => f_load1 (v := .int .i64 (l.getD k 0)) rfl Try.isAgg3 ((hh.keep hq (by simp)).cell1 (i := k) (by omega) rfl rfl)) rfl rfl rfl (fun ac F => ?_)
        refine tP F rfl (fun wq => f_move rfl) rfl rfl rfl (fun ac F => ?_)
        refine tP F rfl (fun wq => f_move rfl) rfl rfl rfl (fun ac F => ?_)
        refine tP F rfl (fun wq => f_sub (r := ((k - 1 : Nat) : Int)) rfl rfl (by rw [IntKind.wrap_i64]; omega)) rfl rfl rfl (fun ac F => ?_)
        refine tP F rfl (fun wq => f_indexS (r := ((adr A).add ((k - 1) * 1))) rfl rfl Try.underlying23 Try.sizeOf3 (by omega) (by omega) (hh.some_ (by omega)).1 (by rw [show Int.toNat ((k - 1 : Nat) : Int) = (k - 1) from by omega])) rfl rfl rfl (fun ac F => ?_)
        refine tQ F rfl (fun wq hq => f_load1 (v := .int .i64 (l.getD (k - 1) 0)) rfl Try.isAgg3 ((hh.keep hq (by simp)).cell1 (i := k - 1) (by omega) rfl rfl)) rfl rfl rfl (fun ac F => ?_)
        refine tP F rfl (fun wq => f_eql rfl rfl) rfl rfl rfl (fun ac F => ?_)
        refine tEnd (fun w25 hq => ?_)
        have hsz := hq.size
        replace hh := hh.keep hq (by simp)
        replace kp0 := kp0.trans hq (by simp)
        refine H24 _ _ ?_
        by_cases hc26 : l.getD k 0 = l.getD (k - 1) 0
        · have hc := hc26
          exact absurd hc (hd k (by omega) (by omega))
        · have hc := hc26
          replace F := F.setb (k := 25) (b' := false) rfl (decide_eq_false hc)
          clear hc
          refine c_false F rfl ?_
          refine wp_skip ?_
          refine H22 _ _ ?_
          refine c_region ?_
          refine stp F (f_move rfl) rfl rfl rfl (fun ac F => ?_)
          refine stp F (f_add (r := ((k + 1 : Nat) : Int)) rfl rfl (by rw [IntKind.wrap_i64]; omega)) rfl rfl rfl (fun ac F => ?_)
          refine stp F (f_assign rfl) rfl rfl rfl (fun ac F => ?_)
          refine stpEnd ?_
          refine ⟨l.length - (k + 1), ?_, (k + 1), F.sub ⟨rfl, rfl, trivial⟩, kp0, hh, by omega, rfl⟩
          omega
      · have hc := hc20
        replace F := F.setb (k := 13) (b' := false) rfl (decide_eq_false hc)
        clear hc
        refine c_false F rfl ?_
        refine wp_exit ?_
        refine H11 _ _ ?_
        refine c_seq (fun K27 H28 => ?_)
        refine c_region ?_
        refine stp F (f_move rfl) rfl rfl rfl (fun ac F => ?_)
        refine stp F (f_assign rfl) rfl rfl rfl (fun ac F => ?_)
        refine stpEnd ?_
        refine H28 _ _ ?_
        refine wp_ret ?_
        refine ret1 F rfl rfl ?_
        exact ⟨rfl, kp0⟩

set_option maxHeartbeats 4000000 in
theorem fin_c (x lo hi : Int) (w0 : World) : Calls Try.prog 80 #[.int .i64 x, .int .i64 lo, .int .i64 hi] w0 (Ret fun v w' => v = .bool (decide (lo ≤ x ∧ x ≤ hi)) ∧ Kp [] w0 w') := by
  refine enter (n := 15) Try.func80 rfl rfl rfl (fun ac F => ?_)
  have kp0 := Kp.refl ([] : List Nat) w0
  refine c_seq (fun K1 H2 => ?_)
  refine c_region ?_
  refine stp F (f_assign rfl) rfl rfl rfl (fun ac F => ?_)
  refine stpEnd ?_
  refine H2 _ _ ?_
  refine c_seq (fun K3 H4 => ?_)
  refine c_region ?_
  refine stp F (f_move rfl) rfl rfl rfl (fun ac F => ?_)
  refine stp F (f_move rfl) rfl rfl rfl (fun ac F => ?_)
  refine stp F (f_geq rfl rfl) rfl rfl rfl (fun ac F => ?_)
  refine stp F (f_move rfl) rfl rfl rfl (fun ac F => ?_)
  by_cases hc5 : lo ≤ x
  · have hc := hc5
    replace F := F.setb (k := 9) (b' := true) rfl (decide_eq_true hc)
    replace F := F.setb (k := 10) (b' := true) rfl (decide_eq_true hc)
    clear hc
    refine stp F (f_move rfl) rfl rfl rfl (fun ac F => ?_)
    refine stp F (f_move rfl) rfl rfl rfl (fun ac F => ?_)
    refine stp F (f_leq rfl rfl) rfl rfl rfl (fun ac F => ?_)
    refine stp F (f_pickT rfl rfl) rfl rfl rfl (fun ac F => ?_)
    refine stp F (f_assign rfl) rfl rfl rfl (fun ac F => ?_)
    refine stpEnd ?_
    refine H4 _ _ ?_
    refine wp_ret ?_
    refine ret1 F rfl rfl ?_
    exact ⟨by simp [hc5], kp0⟩
  · have hc := hc5
    replace F := F.setb (k := 9) (b' := false) rfl (decide_eq_false hc)
    replace F := F.setb (k := 10) (b' := false) rfl (decide_eq_false hc)
    clear hc
    refine stpN F rfl rfl rfl (fun ac F => ?_)
    refine stpN F rfl rfl rfl (fun ac F => ?_)
    refine stpN F rfl rfl rfl (fun ac F => ?_)
    refine stp F (f_pickF rfl rfl) rfl rfl rfl (fun ac F => ?_)
    refine stp F (f_assign rfl) rfl rfl rfl (fun ac F => ?_)
    refine stpEnd ?_
    refine H4 _ _ ?_
    refine wp_ret ?_
    refine ret1 F rfl rfl ?_
    exact ⟨by simp [hc5], kp0⟩

set_option maxHeartbeats 4000000 in
theorem proc_c (x : Int) (w0 : World) : Calls Try.prog 55 #[.int .i64 x] w0 (Ret fun v w' => v = .bool (decide (0 ≤ x ∧ x ≤ 5)) ∧ Kp [] w0 w') := by
  refine enter (n := 5) Try.func55 rfl rfl rfl (fun ac F => ?_)
  have kp0 := Kp.refl ([] : List Nat) w0
  refine c_seq (fun K1 H2 => ?_)
  refine c_region ?_
  refine stp F (f_assign rfl) rfl rfl rfl (fun ac F => ?_)
  refine stpEnd ?_
  refine H2 _ _ ?_
  refine c_seq (fun K3 H4 => ?_)
  refine c_region ?_
  refine stp F (f_move rfl) rfl rfl rfl (fun ac F => ?_)
  refine stpC F (f_call (P := Try.prog) (f := 80) (vs := [.int .i64 x, .int .i64 0, .int .i64 5]) rfl Try.call80) (fin_c _ _ _ _) rfl rfl rfl ?_
  rintro _ w5 ac ⟨rfl, kq6⟩ F
  have hsz := (kq6).size
  replace kp0 := kp0.trans (kq6) (by simp)
  refine stp F (f_assign rfl) rfl rfl rfl (fun ac F => ?_)
  refine stpEnd ?_
  refine H4 _ _ ?_
  refine wp_ret ?_
  refine ret1 F rfl rfl ?_
  exact ⟨rfl, kp0⟩

set_option maxHeartbeats 4000000 in
theorem msg_c (x : Int) (w0 : World) : Calls Try.prog 56 #[.int .i64 x] w0 (Ret fun v w' => v = .bool (decide (0 ≤ x ∧ x ≤ 29)) ∧ Kp [] w0 w') := by
  refine enter (n := 5) Try.func56 rfl rfl rfl (fun ac F => ?_)
  have kp0 := Kp.refl ([] : List Nat) w0
  refine c_seq (fun K1 H2 => ?_)
  refine c_region ?_
  refine stp F (f_assign rfl) rfl rfl rfl (fun ac F => ?_)
  refine stpEnd ?_
  refine H2 _ _ ?_
  refine c_seq (fun K3 H4 => ?_)
  refine c_region ?_
  refine stp F (f_move rfl) rfl rfl rfl (fun ac F => ?_)
  refine stpC F (f_call (P := Try.prog) (f := 80) (vs := [.int .i64 x, .int .i64 0, .int .i64 29]) rfl Try.call80) (fin_c _ _ _ _) rfl rfl rfl ?_
  rintro _ w5 ac ⟨rfl, kq6⟩ F
  have hsz := (kq6).size
  replace kp0 := kp0.trans (kq6) (by simp)
  refine stp F (f_assign rfl) rfl rfl rfl (fun ac F => ?_)
  refine stpEnd ?_
  refine H4 _ _ ?_
  refine wp_ret ?_
  refine ret1 F rfl rfl ?_
  exact ⟨rfl, kp0⟩

set_option maxHeartbeats 4000000 in
theorem outside_c (x : Nat) (w0 : World) (hx : x < 256) : Calls Try.prog 79 #[.int .u8 (x : Int)] w0 (Ret fun v w' => v = .bool (!decide (x / 2 ^ 6 = 0)) ∧ Kp [] w0 w') := by
  refine enter (n := 6) Try.func79 rfl rfl rfl (fun ac F => ?_)
  have kp0 := Kp.refl ([] : List Nat) w0
  refine c_seq (fun K1 H2 => ?_)
  refine c_region ?_
  refine stp F (f_assign rfl) rfl rfl rfl (fun ac F => ?_)
  refine stpEnd ?_
  refine H2 _ _ ?_
  refine c_seq (fun K3 H4 => ?_)
  refine c_region ?_
  refine stp F (f_move rfl) rfl rfl rfl (fun ac F => ?_)
  refine stp F (f_u8shr (a := x) (j := 6) (by first | omega | exact uandn_lt _ _ | exact uor_lt _ _ | exact uand_lt _ _) (by omega) rfl rfl) rfl rfl rfl (fun ac F => ?_)
  refine stp F (f_neq rfl rfl) rfl rfl rfl (fun ac F => ?_)
  refine stp F (f_assign rfl) rfl rfl rfl (fun ac F => ?_)
  refine stpEnd ?_
  refine H4 _ _ ?_
  refine wp_ret ?_
  refine ret1 F rfl rfl ?_
  exact ⟨by rw [show decide (((x / 2 ^ 6 : Nat) : Int) = 0) = decide (x / 2 ^ 6 = 0) from decide_eq_decide.2 (by omega)], kp0⟩

end Go.Proofs.Ytkbngaollbmcbaa.KK

namespace Go.Proofs.Ytkbngaollbmcbaa.KK
open Go Go.RowKit
section
variable {P : Program} {n : Nat} {l : List (Nat × Value)} {w : World}
theorem f_indexStr {s : TypeId} {x y : Operand} {d t p e g} {S : ByteArray} {k : IntKind} {a r : Nat} (hx : evl l x = some (.string S)) (hy : evl l y = some (.int k (a : Int))) (hs : P.underlying s = some .string) (hr : (S[a]?).map (·.toNat) = some r) :
    Fires P ⟨d, .index s x y, t, p, e, g⟩ n l w (.int .u8 (r : Int)) w := fun ac F => by
  obtain ⟨b, hb, rfl⟩ := Option.map_eq_some_iff.1 hr
  simp [execOp, F.eval hx, F.eval hy, Instr.index, asIntOf, run_underlying hs, hb]
theorem retR2 {fn : Func} {post : Value → World → Prop} {a : Act} {r s : ResultVar} {v x : Value} (F : Fr a n l) (hr : fn.results = #[r, s]) (h0 : RvOk P w l r v) (h1 : RvOk P w l s x) (h : post (.tuple #[v, x]) w) : bodyPost P fn (Ret post) .ret a w := by
  have e0 := rv_run F h0
  have e1 := rv_run F h1
  refine ⟨F.nil, _, ?_, h⟩
  have key : (results fn a.tmps).run P w = ((do
      let v0 ← rvRun a.tmps r
      let v1 ← rvRun a.tmps s
      pure (Value.tuple #[v0, v1])) : Sem Value).run P w := by
    cases r <;> cases s <;> simp [results, hr, rvRun]
  rw [key]
  simp [e0, e1]
end
theorem all256 {q : Nat → Bool} (h : (List.range 256).all q = true) {a : Nat} (ha : a < 256) : q a = true := List.all_eq_true.1 h a (List.mem_range.2 ha)
theorem upd_same0 {α : Type} {s : Nat → α} {i : Nat} {v : α} (h : v = s i) : upd s i v = s := by
  funext j; unfold upd; split
  · subst_vars; rfl
  · rfl
theorem upd_at0 {α : Type} {s : Nat → α} {i : Nat} {v : α} : upd s i v i = v := by unfold upd; rw [if_pos rfl]
theorem upd_off0 {α : Type} {s : Nat → α} {i j : Nat} {v : α} (h : j ≠ i) : upd s i v j = s j := by unfold upd; rw [if_neg h]
theorem Blk.eqv {w : World} {g : Nat} {t : TypeId} {cs cs' : List Value} (h : Blk w g t cs) (e : cs = cs') : Blk w g t cs' := e ▸ h
theorem pop8_zero : pop8 0 = 0 := rfl
end Go.Proofs.Ytkbngaollbmcbaa.KK

namespace Go.Proofs.Ytkbngaollbmcbaa.KK
open Go Go.RowKit

def popT : ByteArray := {
                            data :=
                              (([0, 1, 1, 2, 1, 2, 2, 3, 1, 2, 2, 3, 2, 3, 3, 4, 1, 2, 2, 3, 2, 3, 3, 4, 2, 3, 3, 4, 3,
                                          4, 4, 5, 1, 2, 2, 3, 2, 3, 3, 4, 2, 3, 3, 4, 3, 4, 4, 5, 2, 3, 3, 4, 3, 4, 4,
                                          5, 3, 4, 4, 5, 4, 5, 5, 6].append
                                      [1, 2, 2, 3, 2, 3, 3, 4, 2, 3, 3, 4, 3, 4, 4, 5, 2, 3, 3, 4, 3, 4, 4, 5, 3, 4, 4,
                                        5, 4, 5, 5, 6, 2, 3, 3, 4, 3, 4, 4, 5, 3, 4, 4, 5, 4, 5, 5, 6, 3, 4, 4, 5, 4, 5,
                                        5, 6, 4, 5, 5, 6, 5, 6, 6, 7]).append
                                  ([1, 2, 2, 3, 2, 3, 3, 4, 2, 3, 3, 4, 3, 4, 4, 5, 2, 3, 3, 4, 3, 4, 4, 5, 3, 4, 4, 5,
                                        4, 5, 5, 6, 2, 3, 3, 4, 3, 4, 4, 5, 3, 4, 4, 5, 4, 5, 5, 6, 3, 4, 4, 5, 4, 5, 5,
                                        6, 4, 5, 5, 6, 5, 6, 6, 7].append
                                    [2, 3, 3, 4, 3, 4, 4, 5, 3, 4, 4, 5, 4, 5, 5, 6, 3, 4, 4, 5, 4, 5, 5, 6, 4, 5, 5, 6,
                                      5, 6, 6, 7, 3, 4, 4, 5, 4, 5, 5, 6, 4, 5, 5, 6, 5, 6, 6, 7, 4, 5, 5, 6, 5, 6, 6,
                                      7, 5, 6, 6, 7, 6, 7, 7, 8])).toArray }

theorem pop_tab (a : Nat) (ha : a < 256) : (popT[a]?).map (·.toNat) = some (pop8 a) := by
  have h := all256 (q := fun a => decide ((popT[a]?).map (·.toNat) = some (pop8 a))) (by decide +kernel) ha
  exact of_decide_eq_true h

set_option maxHeartbeats 4000000 in
theorem ones_c (x : Nat) (w0 : World) (hx : x < 256) : Calls Try.prog 105 #[.int .u8 (x : Int)] w0 (Ret fun v w' => v = .int .i64 (pop8 x : Int) ∧ Kp [] w0 w') := by
  refine enter (n := 6) Try.func105 rfl rfl rfl (fun ac F => ?_)
  have kp0 := Kp.refl ([] : List Nat) w0
  have hp8 : pop8 x ≤ 8 := by unfold pop8; omega
  refine c_seq (fun K1 H2 => ?_)
  refine c_region ?_
  refine stp F (f_assign rfl) rfl rfl rfl (fun ac F => ?_)
  refine stpEnd ?_
  refine H2 _ _ ?_
  refine c_seq (fun K3 H4 => ?_)
  refine c_region ?_
  refine stp F (f_move rfl) rfl rfl rfl (fun ac F => ?_)
  refine stp F (f_indexStr (a := x) (r := pop8 x) rfl rfl Try.underlying9 (pop_tab x hx)) rfl rfl rfl (fun ac F => ?_)
  refine stp F (f_convI (r := ((pop8 x : Nat) : Int)) rfl Try.underlying5 Try.underlying3 (by rw [IntKind.wrap_i64]; omega)) rfl rfl rfl (fun ac F => ?_)
  refine stp F (f_assign rfl) rfl rfl rfl (fun ac F => ?_)
  refine stpEnd ?_
  refine H4 _ _ ?_
  refine wp_ret ?_
  refine ret1 F rfl rfl ?_
  exact ⟨rfl, kp0⟩

set_option maxHeartbeats 4000000 in
theorem half_c (x y : Nat) (w0 : World) (hx : x < 256) (hy : y < 256) : Calls Try.prog 81 #[.int .u8 (x : Int), .int .u8 (y : Int)] w0 (Ret fun v w' => v = .bool (decide (pop8 y < 2 * pop8 (uand x y))) ∧ Kp [] w0 w') := by
  refine enter (n := 13) Try.func81 rfl rfl rfl (fun ac F => ?_)
  have kp0 := Kp.refl ([] : List Nat) w0
  refine c_seq (fun K1 H2 => ?_)
  refine c_region ?_
  refine stp F (f_assign rfl) rfl rfl rfl (fun ac F => ?_)
  refine stpEnd ?_
  refine H2 _ _ ?_
  refine c_seq (fun K3 H4 => ?_)
  refine c_region ?_
  refine stp F (f_move rfl) rfl rfl rfl (fun ac F => ?_)
  refine stp F (f_move rfl) rfl rfl rfl (fun ac F => ?_)
  refine stp F (f_u8and (a := x) (b := y) rfl rfl) rfl rfl rfl (fun ac F => ?_)
  refine stpC F (f_call (P := Try.prog) (f := 105) (vs := [.int .u8 ((uand x y : Nat) : Int)]) rfl Try.call105) (ones_c (uand x y) _ (by first | omega | exact uandn_lt _ _ | exact uor_lt _ _ | exact uand_lt _ _)) rfl rfl rfl ?_
  rintro _ w5 ac ⟨rfl, kq6⟩ F
  have hsz := (kq6).size
  replace kp0 := kp0.trans (kq6) (by simp)
  have hp8 : pop8 (uand x y) ≤ 8 := by unfold pop8; omega
  refine stp F (f_mul (r := 2 * ((pop8 (uand x y) : Nat) : Int)) rfl rfl (by rw [IntKind.wrap_i64]; omega)) rfl rfl rfl (fun ac F => ?_)
  refine stp F (f_move rfl) rfl rfl rfl (fun ac F => ?_)
  refine stpC F (f_call (P := Try.prog) (f := 105) (vs := [.int .u8 (y : Int)]) rfl Try.call105) (ones_c y _ (by first | omega | exact uandn_lt _ _ | exact uor_lt _ _ | exact uand_lt _ _)) rfl rfl rfl ?_
  rintro _ w7 ac ⟨rfl, kq8⟩ F
  have hsz := (kq8).size
  replace kp0 := kp0.trans (kq8) (by simp)
  have hp11 : pop8 y ≤ 8 := by unfold pop8; omega
  refine stp F (f_gtr rfl rfl) rfl rfl rfl (fun ac F => ?_)
  refine stp F (f_assign rfl) rfl rfl rfl (fun ac F => ?_)
  refine stpEnd ?_
  refine H4 _ _ ?_
  refine wp_ret ?_
  refine ret1 F rfl rfl ?_
  exact ⟨by congr 1; exact decide_eq_decide.2 (by omega), kp0⟩

set_option maxHeartbeats 4000000 in
theorem vchk_c (num : Int) (mem : Nat) (w0 : World) (hmem : mem < 256) : Calls Try.prog 54 #[.agg #[.int .i64 num, .int .u8 (mem : Int)]] w0 (Ret fun v w' => ∃ e : Int, v = .int .i64 e ∧ (e = 0 ↔ VOk num mem) ∧ (e = 0 ∨ e = 1) ∧ Kp [] w0 w') := by
  refine enter (n := 21) Try.func54 rfl rfl rfl (fun ac F => ?_)
  have kp0 := Kp.refl ([] : List Nat) w0
  refine c_seq (fun K1 H2 => ?_)
  refine c_region ?_
  refine stpE F (f_box (cs := [.int .i64 num, .int .u8 (mem : Int)]) rfl rfl) rfl rfl rfl ?_
  rintro _ w4 ac ⟨g3, rfl, nb6⟩ F
  have n7 := nb6.num
  have z8 := nb6.size
  have hsz := (nb6.kp).size
  replace kp0 := kp0.trans (nb6.kp) (by simp)
  have hb5 : Blk w4 g3 67 ([.int .i64 num, .int .u8 (mem : Int)]) := nb6.blk
  refine stp F (f_assign rfl) rfl rfl rfl (fun ac F => ?_)
  refine stpEnd ?_
  refine H2 _ _ ?_
  refine c_seq (fun K9 H10 => ?_)
  refine c_seq (fun K11 H12 => ?_)
  refine c_region ?_
  refine stp F (f_fieldAddr (r := ⟨g3, 0, none⟩) (sz := 0) rfl Try.underlying67 rfl Try.sizeOf3 rfl) rfl rfl rfl (fun ac F => ?_)
  refine stp F (f_load1 (v := .int .i64 num) rfl Try.isAgg3 ((hb5.cell 0).trans rfl)) rfl rfl rfl (fun ac F => ?_)
  refine stp F (f_lss rfl rfl) rfl rfl rfl (fun ac F => ?_)
  refine stp F (f_move rfl) rfl rfl rfl (fun ac F => ?_)
  by_cases hc13 : num < 0
  · have hc := hc13
    replace F := F.setb (k := 5) (b' := true) rfl (decide_eq_true hc)
    replace F := F.setb (k := 6) (b' := true) rfl (decide_eq_true hc)
    clear hc
    refine stpN F rfl rfl rfl (fun ac F => ?_)
    refine stpN F rfl rfl rfl (fun ac F => ?_)
    refine stpN F rfl rfl rfl (fun ac F => ?_)
    refine stp F (f_pickT rfl rfl) rfl rfl rfl (fun ac F => ?_)
    refine stp F (f_move rfl) rfl rfl rfl (fun ac F => ?_)
    refine stpN F rfl rfl rfl (fun ac F => ?_)
    refine stpN F rfl rfl rfl (fun ac F => ?_)
    refine stpN F rfl rfl rfl (fun ac F => ?_)
    refine stp F (f_pickT rfl rfl) rfl rfl rfl (fun ac F => ?_)
    refine stp F (f_move rfl) rfl rfl rfl (fun ac F => ?_)
    refine stpN F rfl rfl rfl (fun ac F => ?_)
    refine stpN F rfl rfl rfl (fun ac F => ?_)
    refine stpN F rfl rfl rfl (fun ac F => ?_)
    refine stp F (f_pickT rfl rfl) rfl rfl rfl (fun ac F => ?_)
    refine stpEnd ?_
    refine H12 _ _ ?_
    refine c_true F rfl ?_
    refine c_seq (fun K14 H15 => ?_)
    refine c_region ?_
    refine stp F (f_assign rfl) rfl rfl rfl (fun ac F => ?_)
    refine stpEnd ?_
    refine H15 _ _ ?_
    refine wp_ret ?_
    refine ret1 F rfl rfl ?_
    exact ⟨1, rfl, ⟨fun h => absurd h (by decide), fun h => absurd h (fun ⟨h1, h2, h3, h4⟩ => by omega)⟩, .inr rfl, kp0⟩
  · have hc := hc13
    replace F := F.setb (k := 5) (b' := false) rfl (decide_eq_false hc)
    replace F := F.setb (k := 6) (b' := false) rfl (decide_eq_false hc)
    clear hc
    refine stp F (f_fieldAddr (r := ⟨g3, 0, none⟩) (sz := 0) rfl Try.underlying67 rfl Try.sizeOf3 rfl) rfl rfl rfl (fun ac F => ?_)
    refine stp F (f_load1 (v := .int .i64 num) rfl Try.isAgg3 ((hb5.cell 0).trans rfl)) rfl rfl rfl (fun ac F => ?_)
    refine stp F (f_gtr rfl rfl) rfl rfl rfl (fun ac F => ?_)
    refine stp F (f_pickF rfl rfl) rfl rfl rfl (fun ac F => ?_)
    refine stp F (f_move rfl) rfl rfl rfl (fun ac F => ?_)
    by_cases hc16 : 16777215 < num
    · have hc := hc16
      replace F := F.setb (k := 9) (b' := true) rfl (decide_eq_true hc)
      replace F := F.setb (k := 10) (b' := true) rfl (decide_eq_true hc)
      replace F := F.setb (k := 11) (b' := true) rfl (decide_eq_true hc)
      clear hc
      refine stpN F rfl rfl rfl (fun ac F => ?_)
      refine stpN F rfl rfl rfl (fun ac F => ?_)
      refine stpN F rfl rfl rfl (fun ac F => ?_)
      refine stp F (f_pickT rfl rfl) rfl rfl rfl (fun ac F => ?_)
      refine stp F (f_move rfl) rfl rfl rfl (fun ac F => ?_)
      refine stpN F rfl rfl rfl (fun ac F => ?_)
      refine stpN F rfl rfl rfl (fun ac F => ?_)
      refine stpN F rfl rfl rfl (fun ac F => ?_)
      refine stp F (f_pickT rfl rfl) rfl rfl rfl (fun ac F => ?_)
      refine stpEnd ?_
      refine H12 _ _ ?_
      refine c_true F rfl ?_
      refine c_seq (fun K17 H18 => ?_)
      refine c_region ?_
      refine stp F (f_assign rfl) rfl rfl rfl (fun ac F => ?_)
      refine stpEnd ?_
      refine H18 _ _ ?_
      refine wp_ret ?_
      refine ret1 F rfl rfl ?_
      exact ⟨1, rfl, ⟨fun h => absurd h (by decide), fun h => absurd h (fun ⟨h1, h2, h3, h4⟩ => by omega)⟩, .inr rfl, kp0⟩
    · have hc := hc16
      replace F := F.setb (k := 9) (b' := false) rfl (decide_eq_false hc)
      replace F := F.setb (k := 10) (b' := false) rfl (decide_eq_false hc)
      replace F := F.setb (k := 11) (b' := false) rfl (decide_eq_false hc)
      clear hc
      refine stp F (f_fieldAddr (r := ⟨g3, 1, none⟩) (sz := 0) rfl Try.underlying67 rfl Try.sizeOf5 rfl) rfl rfl rfl (fun ac F => ?_)
      refine stp F (f_load1 (v := .int .u8 (mem : Int)) rfl Try.isAgg5 ((hb5.cell 1).trans rfl)) rfl rfl rfl (fun ac F => ?_)
      refine stp F (f_eql rfl rfl) rfl rfl rfl (fun ac F => ?_)
      refine stp F (f_pickF rfl rfl) rfl rfl rfl (fun ac F => ?_)
      refine stp F (f_move rfl) rfl rfl rfl (fun ac F => ?_)
      by_cases hc19 : (mem : Int) = 0
      · have hc := hc19
        replace F := F.setb (k := 14) (b' := true) rfl (decide_eq_true hc)
        replace F := F.setb (k := 15) (b' := true) rfl (decide_eq_true hc)
        replace F := F.setb (k := 16) (b' := true) rfl (decide_eq_true hc)
        clear hc
        refine stpN F rfl rfl rfl (fun ac F => ?_)
        refine stpN F rfl rfl rfl (fun ac F => ?_)
        refine stpN F rfl rfl rfl (fun ac F => ?_)
        refine stp F (f_pickT rfl rfl) rfl rfl rfl (fun ac F => ?_)
        refine stpEnd ?_
        refine H12 _ _ ?_
        refine c_true F rfl ?_
        refine c_seq (fun K20 H21 => ?_)
        refine c_region ?_
        refine stp F (f_assign rfl) rfl rfl rfl (fun ac F => ?_)
        refine stpEnd ?_
        refine H21 _ _ ?_
        refine wp_ret ?_
        refine ret1 F rfl rfl ?_
        exact ⟨1, rfl, ⟨fun h => absurd h (by decide), fun h => absurd h (fun ⟨h1, h2, h3, h4⟩ => by omega)⟩, .inr rfl, kp0⟩
      · have hc := hc19
        replace F := F.setb (k := 14) (b' := false) rfl (decide_eq_false hc)
        replace F := F.setb (k := 15) (b' := false) rfl (decide_eq_false hc)
        replace F := F.setb (k := 16) (b' := false) rfl (decide_eq_false hc)
        clear hc
        refine stp F (f_fieldAddr (r := ⟨g3, 1, none⟩) (sz := 0) rfl Try.underlying67 rfl Try.sizeOf5 rfl) rfl rfl rfl (fun ac F => ?_)
        refine stp F (f_load1 (v := .int .u8 (mem : Int)) rfl Try.isAgg5 ((hb5.cell 1).trans rfl)) rfl rfl rfl (fun ac F => ?_)
        refine stpC F (f_call (P := Try.prog) (f := 79) (vs := [.int .u8 (mem : Int)]) rfl Try.call79) (outside_c mem _ (by first | omega | exact uor_lt _ _)) rfl rfl rfl ?_
        rintro _ w22 ac ⟨rfl, kq23⟩ F
        have hsz := (kq23).size
        replace hb5 := hb5.keep (kq23) (by simp)
        replace kp0 := kp0.trans (kq23) (by simp)
        refine stp F (f_pickF rfl rfl) rfl rfl rfl (fun ac F => ?_)
        refine stpEnd ?_
        refine H12 _ _ ?_
        by_cases hc24 : mem / 2 ^ 6 = 0
        · have hc := hc24
          replace F := F.setb (k := 19) (b' := false) rfl (nt (decide_eq_true hc))
          replace F := F.setb (k := 20) (b' := false) rfl (nt (decide_eq_true hc))
          clear hc
          refine c_false F rfl ?_
          refine wp_skip ?_
          refine H10 _ _ ?_
          refine c_seq (fun K25 H26 => ?_)
          refine c_region ?_
          refine stp F (f_assign rfl) rfl rfl rfl (fun ac F => ?_)
          refine stpEnd ?_
          refine H26 _ _ ?_
          refine wp_ret ?_
          refine ret1 F rfl rfl ?_
          exact ⟨0, rfl, ⟨fun _ => ⟨by omega, by omega, by omega, by omega⟩, fun _ => rfl⟩, .inl rfl, kp0⟩
        · have hc := hc24
          replace F := F.setb (k := 19) (b' := true) rfl (nf (decide_eq_false hc))
          replace F := F.setb (k := 20) (b' := true) rfl (nf (decide_eq_false hc))
          clear hc
          refine c_true F rfl ?_
          refine c_seq (fun K27 H28 => ?_)
          refine c_region ?_
          refine stp F (f_assign rfl) rfl rfl rfl (fun ac F => ?_)
          refine stpEnd ?_
          refine H28 _ _ ?_
          refine wp_ret ?_
          refine ret1 F rfl rfl ?_
          exact ⟨1, rfl, ⟨fun h => absurd h (by decide), fun h => absurd h (fun ⟨h1, h2, h3, h4⟩ => by omega)⟩, .inr rfl, kp0⟩

set_option maxHeartbeats 4000000 in
theorem next_c (num : Int) (mem gone come : Nat) (w0 : World) (hmem : mem < 256) (hgone : gone < 256) (hcome : come < 256) (hnum : -9223372036854775808 ≤ num ∧ num ≤ 9223372036854775807) : Calls Try.prog 58 #[.agg #[.int .i64 num, .int .u8 (mem : Int)], .int .u8 (gone : Int), .int .u8 (come : Int)] w0 (Ret fun v w' => v = .tuple #[.agg #[.int .i64 (nextR num mem gone come).num, .int .u8 ((nextR num mem gone come).mem : Int)], .int .i64 (nextR num mem gone come).e] ∧ Kp [] w0 w') := by
  refine enter (n := 52) Try.func58 rfl rfl rfl (fun ac F => ?_)
  have kp0 := Kp.refl ([] : List Nat) w0
  refine c_seq (fun K1 H2 => ?_)
  refine c_region ?_
  refine stpE F (f_box (cs := [.int .i64 num, .int .u8 (mem : Int)]) rfl rfl) rfl rfl rfl ?_
  rintro _ w4 ac ⟨g3, rfl, nb6⟩ F
  have n7 := nb6.num
  have z8 := nb6.size
  have hsz := (nb6.kp).size
  replace kp0 := kp0.trans (nb6.kp) (by simp)
  have hb5 : Blk w4 g3 67 ([.int .i64 num, .int .u8 (mem : Int)]) := nb6.blk
  refine stpE F (f_alloc (cs := [.int .i64 0, .int .u8 0]) Try.zeroValue67 rfl) rfl rfl rfl ?_
  rintro _ w10 ac ⟨g9, rfl, nb12⟩ F
  have n13 := nb12.num
  have z14 := nb12.size
  have hsz := (nb12.kp).size
  replace hb5 := hb5.keep (nb12.kp) (by simp)
  replace kp0 := kp0.trans (nb12.kp) (by simp)
  have hb11 : Blk w10 g9 67 ([.int .i64 0, .int .u8 0]) := nb12.blk
  refine stp F (f_assign rfl) rfl rfl rfl (fun ac F => ?_)
  refine stpEnd ?_
  refine H2 _ _ ?_
  refine c_seq (fun K15 H16 => ?_)
  refine c_seq (fun K17 H18 => ?_)
  refine c_region ?_
  refine stp F (f_loadN rfl Try.isAgg67 Try.sizeOf67 hb5.rdAll) rfl rfl rfl (fun ac F => ?_)
  refine stpC F (f_call (P := Try.prog) (f := 54) (vs := [.agg #[.int .i64 num, .int .u8 (mem : Int)]]) rfl Try.call54) (vchk_c num mem _ hmem) rfl rfl rfl ?_
  rintro _ w19 ac ⟨e, rfl, hev, he01, kq20⟩ F
  have hsz := (kq20).size
  replace hb5 := hb5.keep (kq20) (by simp)
  replace hb11 := hb11.keep (kq20) (by simp)
  replace kp0 := kp0.trans (kq20) (by simp)
  refine stp F (f_assign rfl) rfl rfl rfl (fun ac F => ?_)
  refine stpEnd ?_
  refine H18 _ _ ?_
  refine c_seq (fun K21 H22 => ?_)
  refine c_region ?_
  refine stp F (f_move rfl) rfl rfl rfl (fun ac F => ?_)
  refine stp F (f_neq rfl rfl) rfl rfl rfl (fun ac F => ?_)
  refine stpEnd ?_
  refine H22 _ _ ?_
  by_cases hc23 : e = 0
  · have hc := hc23
    replace F := F.setb (k := 12) (b' := false) rfl (nt (decide_eq_true hc))
    clear hc
    refine c_false F rfl ?_
    refine wp_skip ?_
    refine H16 _ _ ?_
    refine c_seq (fun K24 H25 => ?_)
    refine wp_block ?_
    refine c_seq (fun K26 H27 => ?_)
    refine c_region ?_
    refine stp F (f_move rfl) rfl rfl rfl (fun ac F => ?_)
    refine stp F (f_move rfl) rfl rfl rfl (fun ac F => ?_)
    refine stp F (f_u8or (a := gone) (b := come) rfl rfl) rfl rfl rfl (fun ac F => ?_)
    refine stpC F (f_call (P := Try.prog) (f := 79) (vs := [.int .u8 ((uor gone come : Nat) : Int)]) rfl Try.call79) (outside_c (uor gone come) _ (by first | omega | exact uor_lt _ _)) rfl rfl rfl ?_
    rintro _ w28 ac ⟨rfl, kq29⟩ F
    have hsz := (kq29).size
    replace hb5 := hb5.keep (kq29) (by simp)
    replace hb11 := hb11.keep (kq29) (by simp)
    replace kp0 := kp0.trans (kq29) (by simp)
    refine stp F (f_move rfl) rfl rfl rfl (fun ac F => ?_)
    by_cases hc30 : (uor gone come) / 2 ^ 6 = 0
    · have hc := hc30
      replace F := F.setb (k := 19) (b' := false) rfl (nt (decide_eq_true hc))
      replace F := F.setb (k := 20) (b' := false) rfl (nt (decide_eq_true hc))
      clear hc
      refine stp F (f_move rfl) rfl rfl rfl (fun ac F => ?_)
      refine stp F (f_move rfl) rfl rfl rfl (fun ac F => ?_)
      refine stp F (f_u8and (a := gone) (b := come) rfl rfl) rfl rfl rfl (fun ac F => ?_)
      refine stp F (f_neq rfl rfl) rfl rfl rfl (fun ac F => ?_)
      refine stp F (f_pickF rfl rfl) rfl rfl rfl (fun ac F => ?_)
      refine stp F (f_assign rfl) rfl rfl rfl (fun ac F => ?_)
      refine stpEnd ?_
      refine H27 _ _ ?_
      by_cases hc31 : ((uand gone come : Nat) : Int) = 0
      · have hc := hc31
        replace F := F.setb (k := 24) (b' := false) rfl (nt (decide_eq_true hc))
        replace F := F.setb (k := 25) (b' := false) rfl (nt (decide_eq_true hc))
        replace F := F.setb (k := 15) (b' := false) rfl (nt (decide_eq_true hc))
        clear hc
        refine c_false F rfl ?_
        refine c_seq (fun K32 H33 => ?_)
        refine c_region ?_
        refine stp F (f_fieldAddr (r := ⟨g3, 0, none⟩) (sz := 0) rfl Try.underlying67 rfl Try.sizeOf3 rfl) rfl rfl rfl (fun ac F => ?_)
        refine stp F (f_load1 (v := .int .i64 num) rfl Try.isAgg3 ((hb5.cell 0).trans rfl)) rfl rfl rfl (fun ac F => ?_)
        refine stp F (f_eql rfl rfl) rfl rfl rfl (fun ac F => ?_)
        refine stp F (f_assign rfl) rfl rfl rfl (fun ac F => ?_)
        refine stpEnd ?_
        refine H33 _ _ ?_
        by_cases hc34 : num = 16777215
        · have hc := hc34
          replace F := F.setb (k := 30) (b' := true) rfl (decide_eq_true hc)
          replace F := F.setb (k := 27) (b' := true) rfl (decide_eq_true hc)
          clear hc
          refine c_true F rfl ?_
          refine c_seq (fun K35 H36 => ?_)
          refine c_region ?_
          refine stp F (f_build (vs := []) (v := .agg #[.int .i64 0, .int .u8 0]) rfl (fun w => by kernel_rfl)) rfl rfl rfl (fun ac F => ?_)
          refine stpW F (f_store (v := .agg #[.int .i64 0, .int .u8 0]) (vs := [.int .i64 0, .int .u8 0]) rfl rfl hb11 Try.sizeOf67 rfl rfl (by simp) (by simp [plainV])) rfl rfl ?_
          rintro w37 ac wr38 F
          have z39 := wr38.size
          have hsz := (wr38.kp).size
          replace hb5 := hb5.keep (wr38.kp) (by have := hb5.lt; simp; omega)
          replace kp0 := kp0.trans (wr38.kp) (by intro x hx hl; simp at hx; omega)
          replace hb11 : Blk w37 g9 67 ([.int .i64 0, .int .u8 0]) := wr38.blk
          refine stp F (f_assign rfl) rfl rfl rfl (fun ac F => ?_)
          refine stpEnd ?_
          refine H36 _ _ ?_
          refine wp_ret ?_
          refine retR2 F rfl ⟨_, rfl, run_loadVarN Try.isAgg67 Try.sizeOf67 hb11.rdAll⟩ rfl ?_
          have hv : (0 ≤ num ∧ num ≤ 16777215 ∧ mem ≠ 0 ∧ mem / 2 ^ 6 = 0) := hev.1 hc23
          exact ⟨by unfold nextR; rw [if_neg (fun h => h hv), if_neg (by omega), if_pos (by omega)]; try rfl, kp0⟩
        · have hc := hc34
          replace F := F.setb (k := 30) (b' := false) rfl (decide_eq_false hc)
          replace F := F.setb (k := 27) (b' := false) rfl (decide_eq_false hc)
          clear hc
          refine c_false F rfl ?_
          refine c_seq (fun K40 H41 => ?_)
          refine c_region ?_
          refine stp F (f_fieldAddr (r := ⟨g3, 1, none⟩) (sz := 0) rfl Try.underlying67 rfl Try.sizeOf5 rfl) rfl rfl rfl (fun ac F => ?_)
          refine stp F (f_load1 (v := .int .u8 (mem : Int)) rfl Try.isAgg5 ((hb5.cell 1).trans rfl)) rfl rfl rfl (fun ac F => ?_)
          refine stp F (f_move rfl) rfl rfl rfl (fun ac F => ?_)
          refine stp F (f_u8andn (a := mem) (b := gone) rfl rfl) rfl rfl rfl (fun ac F => ?_)
          refine stp F (f_fieldAddr (r := ⟨g3, 1, none⟩) (sz := 0) rfl Try.underlying67 rfl Try.sizeOf5 rfl) rfl rfl rfl (fun ac F => ?_)
          refine stp F (f_load1 (v := .int .u8 (mem : Int)) rfl Try.isAgg5 ((hb5.cell 1).trans rfl)) rfl rfl rfl (fun ac F => ?_)
          refine stpC F (f_call (P := Try.prog) (f := 81) (vs := [.int .u8 ((uandn mem gone : Nat) : Int), .int .u8 (mem : Int)]) rfl Try.call81) (half_c (uandn mem gone) mem _ (uandn_lt _ _) hmem) rfl rfl rfl ?_
          rintro _ w42 ac ⟨rfl, kq43⟩ F
          have hsz := (kq43).size
          replace hb5 := hb5.keep (kq43) (by simp)
          replace hb11 := hb11.keep (kq43) (by simp)
          replace kp0 := kp0.trans (kq43) (by simp)
          refine stp F (f_not rfl) rfl rfl rfl (fun ac F => ?_)
          refine stp F (f_assign rfl) rfl rfl rfl (fun ac F => ?_)
          refine stpEnd ?_
          refine H41 _ _ ?_
          by_cases hc44 : pop8 mem < 2 * pop8 (uand (uandn mem gone) mem)
          · have hc := hc44
            replace F := F.setb (k := 39) (b' := true) rfl (decide_eq_true hc)
            replace F := F.setb (k := 40) (b' := false) rfl (nt (decide_eq_true hc))
            replace F := F.setb (k := 32) (b' := false) rfl (nt (decide_eq_true hc))
            clear hc
            refine c_false F rfl ?_
            refine wp_skip ?_
            refine H25 _ _ ?_
            refine c_seq (fun K45 H46 => ?_)
            have hv_ := hev.1 hc23
            have hv1 := hv_.1
            have hv2 := hv_.2.1
            refine c_region ?_
            refine stp F (f_fieldAddr (r := ⟨g3, 0, none⟩) (sz := 0) rfl Try.underlying67 rfl Try.sizeOf3 rfl) rfl rfl rfl (fun ac F => ?_)
            refine stp F (f_load1 (v := .int .i64 num) rfl Try.isAgg3 ((hb5.cell 0).trans rfl)) rfl rfl rfl (fun ac F => ?_)
            refine stp F (f_add (r := num + 1) rfl rfl (by rw [IntKind.wrap_i64]; omega)) rfl rfl rfl (fun ac F => ?_)
            refine stp F (f_fieldAddr (r := ⟨g3, 1, none⟩) (sz := 0) rfl Try.underlying67 rfl Try.sizeOf5 rfl) rfl rfl rfl (fun ac F => ?_)
            refine stp F (f_load1 (v := .int .u8 (mem : Int)) rfl Try.isAgg5 ((hb5.cell 1).trans rfl)) rfl rfl rfl (fun ac F => ?_)
            refine stp F (f_move rfl) rfl rfl rfl (fun ac F => ?_)
            refine stp F (f_u8andn (a := mem) (b := gone) rfl rfl) rfl rfl rfl (fun ac F => ?_)
            refine stp F (f_move rfl) rfl rfl rfl (fun ac F => ?_)
            refine stp F (f_u8or (a := (uandn mem gone)) (b := come) rfl rfl) rfl rfl rfl (fun ac F => ?_)
            refine stp F (f_build (vs := [(0, .int .i64 (num + 1)), (1, .int .u8 ((uor (uandn mem gone) come : Nat) : Int))]) (v := .agg #[.int .i64 (num + 1), .int .u8 ((uor (uandn mem gone) come : Nat) : Int)]) rfl (fun w => by kernel_rfl)) rfl rfl rfl (fun ac F => ?_)
            refine stpW F (f_store (v := .agg #[.int .i64 (num + 1), .int .u8 ((uor (uandn mem gone) come : Nat) : Int)]) (vs := [.int .i64 (num + 1), .int .u8 ((uor (uandn mem gone) come : Nat) : Int)]) rfl rfl hb11 Try.sizeOf67 rfl rfl (by simp) (by simp [plainV])) rfl rfl ?_
            rintro w47 ac wr48 F
            have z49 := wr48.size
            have hsz := (wr48.kp).size
            replace hb5 := hb5.keep (wr48.kp) (by have := hb5.lt; simp; omega)
            replace kp0 := kp0.trans (wr48.kp) (by intro x hx hl; simp at hx; omega)
            replace hb11 : Blk w47 g9 67 ([.int .i64 (num + 1), .int .u8 ((uor (uandn mem gone) come : Nat) : Int)]) := wr48.blk
            refine stp F (f_assign rfl) rfl rfl rfl (fun ac F => ?_)
            refine stpEnd ?_
            refine H46 _ _ ?_
            refine wp_ret ?_
            refine retR2 F rfl ⟨_, rfl, run_loadVarN Try.isAgg67 Try.sizeOf67 hb11.rdAll⟩ rfl ?_
            have hv : (0 ≤ num ∧ num ≤ 16777215 ∧ mem ≠ 0 ∧ mem / 2 ^ 6 = 0) := hev.1 hc23
            exact ⟨by unfold nextR; rw [if_neg (fun h => h hv), if_neg (by omega), if_neg (by omega), if_neg (by omega)], kp0⟩
          · have hc := hc44
            replace F := F.setb (k := 39) (b' := false) rfl (decide_eq_false hc)
            replace F := F.setb (k := 40) (b' := true) rfl (nf (decide_eq_false hc))
            replace F := F.setb (k := 32) (b' := true) rfl (nf (decide_eq_false hc))
            clear hc
            refine c_true F rfl ?_
            refine c_seq (fun K50 H51 => ?_)
            refine c_region ?_
            refine stp F (f_build (vs := []) (v := .agg #[.int .i64 0, .int .u8 0]) rfl (fun w => by kernel_rfl)) rfl rfl rfl (fun ac F => ?_)
            refine stpW F (f_store (v := .agg #[.int .i64 0, .int .u8 0]) (vs := [.int .i64 0, .int .u8 0]) rfl rfl hb11 Try.sizeOf67 rfl rfl (by simp) (by simp [plainV])) rfl rfl ?_
            rintro w52 ac wr53 F
            have z54 := wr53.size
            have hsz := (wr53.kp).size
            replace hb5 := hb5.keep (wr53.kp) (by have := hb5.lt; simp; omega)
            replace kp0 := kp0.trans (wr53.kp) (by intro x hx hl; simp at hx; omega)
            replace hb11 : Blk w52 g9 67 ([.int .i64 0, .int .u8 0]) := wr53.blk
            refine stp F (f_assign rfl) rfl rfl rfl (fun ac F => ?_)
            refine stpEnd ?_
            refine H51 _ _ ?_
            refine wp_ret ?_
            refine retR2 F rfl ⟨_, rfl, run_loadVarN Try.isAgg67 Try.sizeOf67 hb11.rdAll⟩ rfl ?_
            have hv : (0 ≤ num ∧ num ≤ 16777215 ∧ mem ≠ 0 ∧ mem / 2 ^ 6 = 0) := hev.1 hc23
            exact ⟨by unfold nextR; rw [if_neg (fun h => h hv), if_neg (by omega), if_neg (by omega), if_pos (by omega)]; try rfl, kp0⟩
      · have hc := hc31
        replace F := F.setb (k := 24) (b' := true) rfl (nf (decide_eq_false hc))
        replace F := F.setb (k := 25) (b' := true) rfl (nf (decide_eq_false hc))
        replace F := F.setb (k := 15) (b' := true) rfl (nf (decide_eq_false hc))
        clear hc
        refine c_true F rfl ?_
        refine c_seq (fun K55 H56 => ?_)
        refine c_region ?_
        refine stp F (f_build (vs := []) (v := .agg #[.int .i64 0, .int .u8 0]) rfl (fun w => by kernel_rfl)) rfl rfl rfl (fun ac F => ?_)
        refine stpW F (f_store (v := .agg #[.int .i64 0, .int .u8 0]) (vs := [.int .i64 0, .int .u8 0]) rfl rfl hb11 Try.sizeOf67 rfl rfl (by simp) (by simp [plainV])) rfl rfl ?_
        rintro w57 ac wr58 F
        have z59 := wr58.size
        have hsz := (wr58.kp).size
        replace hb5 := hb5.keep (wr58.kp) (by have := hb5.lt; simp; omega)
        replace kp0 := kp0.trans (wr58.kp) (by intro x hx hl; simp at hx; omega)
        replace hb11 : Blk w57 g9 67 ([.int .i64 0, .int .u8 0]) := wr58.blk
        refine stp F (f_assign rfl) rfl rfl rfl (fun ac F => ?_)
        refine stpEnd ?_
        refine H56 _ _ ?_
        refine wp_ret ?_
        refine retR2 F rfl ⟨_, rfl, run_loadVarN Try.isAgg67 Try.sizeOf67 hb11.rdAll⟩ rfl ?_
        have hv : (0 ≤ num ∧ num ≤ 16777215 ∧ mem ≠ 0 ∧ mem / 2 ^ 6 = 0) := hev.1 hc23
        exact ⟨by unfold nextR; rw [if_neg (fun h => h hv), if_pos (by first | exact .inl (by omega) | exact .inr (by omega))]; try rfl, kp0⟩
    · have hc := hc30
      replace F := F.setb (k := 19) (b' := true) rfl (nf (decide_eq_false hc))
      replace F := F.setb (k := 20) (b' := true) rfl (nf (decide_eq_false hc))
      clear hc
      refine stpN F rfl rfl rfl (fun ac F => ?_)
      refine stpN F rfl rfl rfl (fun ac F => ?_)
      refine stpN F rfl rfl rfl (fun ac F => ?_)
      refine stpN F rfl rfl rfl (fun ac F => ?_)
      refine stp F (f_pickT rfl rfl) rfl rfl rfl (fun ac F => ?_)
      refine stp F (f_assign rfl) rfl rfl rfl (fun ac F => ?_)
      refine stpEnd ?_
      refine H27 _ _ ?_
      refine c_true F rfl ?_
      refine c_seq (fun K60 H61 => ?_)
      refine c_region ?_
      refine stp F (f_build (vs := []) (v := .agg #[.int .i64 0, .int .u8 0]) rfl (fun w => by kernel_rfl)) rfl rfl rfl (fun ac F => ?_)
      refine stpW F (f_store (v := .agg #[.int .i64 0, .int .u8 0]) (vs := [.int .i64 0, .int .u8 0]) rfl rfl hb11 Try.sizeOf67 rfl rfl (by simp) (by simp [plainV])) rfl rfl ?_
      rintro w62 ac wr63 F
      have z64 := wr63.size
      have hsz := (wr63.kp).size
      replace hb5 := hb5.keep (wr63.kp) (by have := hb5.lt; simp; omega)
      replace kp0 := kp0.trans (wr63.kp) (by intro x hx hl; simp at hx; omega)
      replace hb11 : Blk w62 g9 67 ([.int .i64 0, .int .u8 0]) := wr63.blk
      refine stp F (f_assign rfl) rfl rfl rfl (fun ac F => ?_)
      refine stpEnd ?_
      refine H61 _ _ ?_
      refine wp_ret ?_
      refine retR2 F rfl ⟨_, rfl, run_loadVarN Try.isAgg67 Try.sizeOf67 hb11.rdAll⟩ rfl ?_
      have hv : (0 ≤ num ∧ num ≤ 16777215 ∧ mem ≠ 0 ∧ mem / 2 ^ 6 = 0) := hev.1 hc23
      exact ⟨by unfold nextR; rw [if_neg (fun h => h hv), if_pos (by first | exact .inl (by omega) | exact .inr (by omega))]; try rfl, kp0⟩
  · have hc := hc23
    replace F := F.setb (k := 12) (b' := true) rfl (nf (decide_eq_false hc))
    clear hc
    refine c_true F rfl ?_
    refine c_seq (fun K65 H66 => ?_)
    refine c_region ?_
    refine stp F (f_build (vs := []) (v := .agg #[.int .i64 0, .int .u8 0]) rfl (fun w => by kernel_rfl)) rfl rfl rfl (fun ac F => ?_)
    refine stp F (f_move rfl) rfl rfl rfl (fun ac F => ?_)
    refine stpW F (f_store (v := .agg #[.int .i64 0, .int .u8 0]) (vs := [.int .i64 0, .int .u8 0]) rfl rfl hb11 Try.sizeOf67 rfl rfl (by simp) (by simp [plainV])) rfl rfl ?_
    rintro w67 ac wr68 F
    have z69 := wr68.size
    have hsz := (wr68.kp).size
    replace hb5 := hb5.keep (wr68.kp) (by have := hb5.lt; simp; omega)
    replace kp0 := kp0.trans (wr68.kp) (by intro x hx hl; simp at hx; omega)
    replace hb11 : Blk w67 g9 67 ([.int .i64 0, .int .u8 0]) := wr68.blk
    refine stp F (f_assign rfl) rfl rfl rfl (fun ac F => ?_)
    refine stpEnd ?_
    refine H66 _ _ ?_
    refine wp_ret ?_
    refine retR2 F rfl ⟨_, rfl, run_loadVarN Try.isAgg67 Try.sizeOf67 hb11.rdAll⟩ rfl ?_
    have he1 : e = 1 := he01.resolve_left hc23
    have hnv : ¬ (0 ≤ num ∧ num ≤ 16777215 ∧ mem ≠ 0 ∧ mem / 2 ^ 6 = 0) := fun h => hc23 (hev.2 h)
    exact ⟨by unfold nextR; rw [if_pos hnv, he1]; try rfl, kp0⟩

end Go.Proofs.Ytkbngaollbmcbaa.KK
