/- The tied card of CausalOrder is proved: nobody is told a mail ahead of one that its sender had seen. The card's own condition: the three listed tables are laid as the program's text lays them. -/
import Derived.Test.YtkbngaollbmcbaaDoorPl
import Derived.DeepKeys
import Derived.Test.YtkbngaollbmcbaaDoorRows
import Derived.Test.YtkbngaollbmcbaaDoorCards
import Derived.Test.YtkbngaollbmcbaaDoorTie
import Derived.WalkKit
import Derived.ProofKit
import Derived.OpenShut
import Derived.ChangeOld
import Derived.Carry
import Derived.Below
import Derived.Deep.Slices
import Derived.Deep.Fields
import Derived.LaidMore
import Derived.SevenTiedAt
import Derived.Stop.Joined

namespace Go.Proofs.YtkbngaollbmcbaaDoor.KK
open Go Go.RowKit

/-! ### Vectors and mails that are compared -/
abbrev vecC (f : Nat → Int) : List Value := [.int .i64 (f 0), .int .i64 (f 1), .int .i64 (f 2), .int .i64 (f 3), .int .i64 (f 4), .int .i64 (f 5)]
abbrev vecV (f : Nat → Int) : Value := .agg #[.int .i64 (f 0), .int .i64 (f 1), .int .i64 (f 2), .int .i64 (f 3), .int .i64 (f 4), .int .i64 (f 5)]
def EqV (a b : Nat → Int) : Prop := ∀ i : Nat, i < 6 → a i = b i
instance (a b : Nat → Int) : Decidable (EqV a b) := inferInstanceAs (Decidable (∀ i : Nat, i < 6 → a i = b i))
theorem run_eqInt (d : Nat) (w : World) (a b : Int) : (Op.equalIn (d + 1) 3 (.int .i64 a) (.int .i64 b)).run Tryd.prog w = .ok (a == b) w := by
  simp [Op.equalIn, run_underlying Tryd.underlying3]
theorem eqItems_int (d : Nat) (w : World) {xs ys : Array Value} {i : Nat} {is : List Nat} {a b : Int} {r : Bool} (hx : xs[i]? = some (.int .i64 a)) (hy : ys[i]? = some (.int .i64 b)) (h : (Op.eqItems (d + 1) 3 1 xs ys is).run Tryd.prog w = .ok r w) :
    (Op.eqItems (d + 1) 3 1 xs ys (i :: is)).run Tryd.prog w = .ok (decide (a = b) && r) w := by
  have p1 : (part 3 xs i).run Tryd.prog w = .ok _ w := run_part_plain w (by kernel_rfl) hx
  have p2 : (part 3 ys i).run Tryd.prog w = .ok _ w := run_part_plain w (by kernel_rfl) hy
  simp only [Op.eqItems, Sem.run_bind, Nat.mul_one, p1, p2, Result.andThen_ok, run_eqInt]
  by_cases e : a = b
  · simp [e, h]
  · simp [e]
theorem run_eqVec (d : Nat) (w : World) (a b : Nat → Int) : (Op.equalIn (d + 2) 30 (vecV a) (vecV b)).run Tryd.prog w = .ok (decide (EqV a b)) w := by
  have hc : Tryd.prog.cellsOf 3 = 1 := by kernel_rfl
  have key : (Op.equalIn (d + 2) 30 (vecV a) (vecV b)).run Tryd.prog w = .ok (decide (a 0 = b 0) && (decide (a 1 = b 1) && (decide (a 2 = b 2) && (decide (a 3 = b 3) && (decide (a 4 = b 4) && (decide (a 5 = b 5) && true)))))) w := by
    rw [run_equalIn_array w (d + 1) (i := Tryd.t3) _ _ Tryd.underlying30 (by kernel_rfl), hc, show List.range 6 = [0, 1, 2, 3, 4, 5] from rfl]
    exact eqItems_int d w rfl rfl (eqItems_int d w rfl rfl (eqItems_int d w rfl rfl (eqItems_int d w rfl rfl (eqItems_int d w rfl rfl (eqItems_int d w rfl rfl (by simp [Op.eqItems]))))))
  rw [key]
  congr 1
  rw [Bool.eq_iff_iff]
  simp only [Bool.and_eq_true, decide_eq_true_eq, and_true]
  constructor
  · rintro ⟨h0, h1, h2, h3, h4, h5⟩ i hi
    have : i = 0 ∨ i = 1 ∨ i = 2 ∨ i = 3 ∨ i = 4 ∨ i = 5 := by omega
    rcases this with rfl | rfl | rfl | rfl | rfl | rfl <;> assumption
  · intro h; exact ⟨h 0 (by omega), h 1 (by omega), h 2 (by omega), h 3 (by omega), h 4 (by omega), h 5 (by omega)⟩
theorem run_eqVec0 (w : World) (a b : Nat → Int) : (Op.equal 30 (vecV a) (vecV b)).run Tryd.prog w = .ok (decide (EqV a b)) w := run_eqVec 9998 w a b
theorem run_eqStr (d : Nat) (w : World) (a b : ByteArray) : (Op.equalIn (d + 1) 9 (.string a) (.string b)).run Tryd.prog w = .ok (a == b) w := by
  simp [Op.equalIn, run_underlying Tryd.underlying9]
/-- Two mails are one. -/
def EqM (x y : Ml) : Prop := x.f = y.f ∧ EqV x.a y.a ∧ x.t = y.t
instance (x y : Ml) : Decidable (EqM x y) := inferInstanceAs (Decidable (_ ∧ _ ∧ _))
section
variable {n : Nat} {l : List (Nat × Value)} {w : World}
theorem f_eqVec {x y : Operand} {d t u p e g} {a b : Nat → Int} (hx : evl l x = some (vecV a)) (hy : evl l y = some (vecV b)) : Fires Tryd.prog ⟨d, .binOp .eql 30 x y t, u, p, e, g⟩ n l w (.bool (decide (EqV a b))) w := fun ac F => by
  have hg : Tryd.prog.eqGuardType Tryd.prog.depth 30 = false := by kernel_rfl
  simp only [execOp, F.eval hx, F.eval hy]
  simp [eqGuard, hg, binOp, run_eqVec0]
theorem f_neVec {x y : Operand} {d t u p e g} {a b : Nat → Int} (hx : evl l x = some (vecV a)) (hy : evl l y = some (vecV b)) : Fires Tryd.prog ⟨d, .binOp .neq 30 x y t, u, p, e, g⟩ n l w (.bool (!decide (EqV a b))) w := fun ac F => by
  have hg : Tryd.prog.eqGuardType Tryd.prog.depth 30 = false := by kernel_rfl
  simp only [execOp, F.eval hx, F.eval hy]
  simp [eqGuard, hg, binOp, run_eqVec0]
end
end Go.Proofs.YtkbngaollbmcbaaDoor.KK
namespace Go.Proofs.YtkbngaollbmcbaaDoor.KK
open Go Go.RowKit
theorem vec_put {s : Nat → Int} {j q : Nat} {x : Int} (hj : j < 6) (hq : q = j) : lay (vecC s) q [.int .i64 x] = vecC (upd s j x) := by
  subst hq
  match q, hj with
  | 0, _ => rfl
  | 1, _ => rfl
  | 2, _ => rfl
  | 3, _ => rfl
  | 4, _ => rfl
  | 5, _ => rfl
/-- The greater ones, up to the k-th. -/
def mxK (a b : Nat → Int) (k : Nat) : Nat → Int := fun i => if i < k then max (a i) (b i) else a i
theorem mxK_next {a b : Nat → Int} {k : Nat} : upd (mxK a b k) k (max (mxK a b k k) (b k)) = mxK a b (k + 1) := by
  funext i
  unfold upd mxK
  by_cases h : i = k
  · subst h; simp
  · rw [if_neg h]
    by_cases h2 : i < k
    · rw [if_pos h2, if_pos (by omega)]
    · rw [if_neg h2, if_neg (by omega)]
theorem mxK_le {a b : Nat → Int} (h : EqV (mxK a b 6) b) : ∀ i : Nat, i < 6 → a i ≤ b i := by
  intro i hi
  have := h i hi
  unfold mxK at this
  rw [if_pos hi] at this
  omega
theorem Chain.above : ∀ {l : List Ml} {s s' : Nat → Int}, Chain s l s' → ∀ y ∈ l, s y.f.toNat < y.a y.f.toNat
  | m :: l, s, s', h, y, hy => by
    rcases List.mem_cons.1 hy with rfl | hy
    · have := (h.1 y.f.toNat (by have := h.2; omega)).1 (by have := h.2; omega)
      omega
    · have h1 := Chain.above h.2.2.2 y hy
      have h2 := bump_le s m y.f.toNat
      omega
theorem Chain.order : ∀ {l : List Ml} {s s' : Nat → Int}, Chain s l s' → ∀ i j : Nat, i < j → j < l.length → ¬ ∀ q : Nat, q < 6 → (l.getD j default).a q ≤ (l.getD i default).a q
  | m :: l, s, s', h, 0, j + 1, _, hj, hle => by
    simp only [List.getD_cons_zero, List.getD_cons_succ] at hle
    have hin : l.getD j default ∈ l := getD_in (by simpa using hj)
    have h1 := Chain.above h.2.2.2 _ hin
    have h0 := Chain.rng h.2.2.2 _ hin
    have h2 := hle (l.getD j default).f.toNat (by omega)
    have h3 := h.1 (l.getD j default).f.toNat (by omega)
    by_cases e : (l.getD j default).f.toNat = m.f.toNat
    · have := h3.1 (by have := h.2; omega)
      rw [e] at h1 h2 this
      rw [bump_at] at h1
      omega
    · rw [bump_off e] at h1
      have := h3.2 (by have := h.2; omega)
      omega
  | m :: l, s, s', h, i + 1, j + 1, hij, hj, hle => Chain.order h.2.2.2 i j (by omega) (by simpa using hj) (fun q hq => by simpa using hle q hq)
end Go.Proofs.YtkbngaollbmcbaaDoor.KK

namespace Go.Proofs.YtkbngaollbmcbaaDoor.KK
open Go Go.RowKit

set_option maxHeartbeats 4000000 in
theorem max_c (a b : Nat → Int) (w0 : World) : Calls Tryd.prog 29 #[.agg #[.int .i64 (a 0), .int .i64 (a 1), .int .i64 (a 2), .int .i64 (a 3), .int .i64 (a 4), .int .i64 (a 5)], .agg #[.int .i64 (b 0), .int .i64 (b 1), .int .i64 (b 2), .int .i64 (b 3), .int .i64 (b 4), .int .i64 (b 5)]] w0 (Ret fun v w' => v = vecV (mxK a b 6) ∧ Kp [] w0 w') := by
  refine enter (n := 20) Tryd.func29 rfl rfl rfl (fun ac F => ?_)
  have kp0 := Kp.refl ([] : List Nat) w0
  refine c_seq (fun K1 H2 => ?_)
  refine c_region ?_
  refine stpE F (f_box (cs := [.int .i64 (a 0), .int .i64 (a 1), .int .i64 (a 2), .int .i64 (a 3), .int .i64 (a 4), .int .i64 (a 5)]) rfl rfl) rfl rfl rfl ?_
  rintro _ w4 ac ⟨g3, rfl, nb6⟩ F
  have n7 := nb6.num
  have z8 := nb6.size
  have hsz := (nb6.kp).size
  replace kp0 := kp0.trans (nb6.kp) (by simp)
  have hb5 : Blk w4 g3 30 ([.int .i64 (a 0), .int .i64 (a 1), .int .i64 (a 2), .int .i64 (a 3), .int .i64 (a 4), .int .i64 (a 5)]) := nb6.blk
  refine stpE F (f_box (cs := [.int .i64 (b 0), .int .i64 (b 1), .int .i64 (b 2), .int .i64 (b 3), .int .i64 (b 4), .int .i64 (b 5)]) rfl rfl) rfl rfl rfl ?_
  rintro _ w10 ac ⟨g9, rfl, nb12⟩ F
  have n13 := nb12.num
  have z14 := nb12.size
  have hsz := (nb12.kp).size
  replace hb5 := hb5.keep (nb12.kp) (by simp)
  replace kp0 := kp0.trans (nb12.kp) (by simp)
  have hb11 : Blk w10 g9 30 ([.int .i64 (b 0), .int .i64 (b 1), .int .i64 (b 2), .int .i64 (b 3), .int .i64 (b 4), .int .i64 (b 5)]) := nb12.blk
  refine stpE F (f_alloc (cs := [.int .i64 0, .int .i64 0, .int .i64 0, .int .i64 0, .int .i64 0, .int .i64 0]) Tryd.zeroValue30 rfl) rfl rfl rfl ?_
  rintro _ w16 ac ⟨g15, rfl, nb18⟩ F
  have n19 := nb18.num
  have z20 := nb18.size
  have hsz := (nb18.kp).size
  replace hb5 := hb5.keep (nb18.kp) (by simp)
  replace hb11 := hb11.keep (nb18.kp) (by simp)
  replace kp0 := kp0.trans (nb18.kp) (by simp)
  have hb17 : Blk w16 g15 30 ([.int .i64 0, .int .i64 0, .int .i64 0, .int .i64 0, .int .i64 0, .int .i64 0]) := nb18.blk
  refine stpEnd ?_
  refine H2 _ _ ?_
  refine c_seq (fun K21 H22 => ?_)
  refine c_seq (fun K23 H24 => ?_)
  refine c_region ?_
  refine stp F (f_move rfl) rfl rfl rfl (fun ac F => ?_)
  refine stpEnd ?_
  refine H24 _ _ ?_
  refine wp_block ?_
  refine c_loop (fun mx ax wx => ∃ (k : Nat), Fr ax 20 [(2, .pointer (some ⟨g3, 0, none⟩)), (3, .pointer (some ⟨g9, 0, none⟩)), (4, .pointer (some ⟨g15, 0, none⟩)), (6, .int .i64 (k : Int))] ∧ Kp [] w0 wx ∧ Blk wx g3 30 ([.int .i64 ((mxK a b k) 0), .int .i64 ((mxK a b k) 1), .int .i64 ((mxK a b k) 2), .int .i64 ((mxK a b k) 3), .int .i64 ((mxK a b k) 4), .int .i64 ((mxK a b k) 5)]) ∧ Blk wx g9 30 ([.int .i64 (b 0), .int .i64 (b 1), .int .i64 (b 2), .int .i64 (b 3), .int .i64 (b 4), .int .i64 (b 5)]) ∧ Blk wx g15 30 ([.int .i64 0, .int .i64 0, .int .i64 0, .int .i64 0, .int .i64 0, .int .i64 0]) ∧ (k ≤ 6) ∧ mx = 6 - k) (6 - 0) ?_ ?_
  · exact ⟨0, F.sub ⟨rfl, rfl, rfl, rfl, trivial⟩, kp0, hb5, hb11, hb17, by omega, rfl⟩
  · clear F kp0 hb5 hb11 hb17
    rintro m26 ac wl25 ⟨k, F, kp0, hb5, hb11, hb17, hk, hm⟩
    have hsz := kp0.size
    have lt_hb5 := hb5.lt
    have lt_hb11 := hb11.lt
    have lt_hb17 := hb17.lt
    refine c_seq (fun K27 H28 => ?_)
    refine c_region ?_
    refine stp F (f_lss rfl rfl) rfl rfl rfl (fun ac F => ?_)
    refine stpEnd ?_
    refine H28 _ _ ?_
    refine c_seq (fun K29 H30 => ?_)
    by_cases hc31 : (k : Int) < 6
    · have hc := hc31
      replace F := F.setb (k := 7) (b' := true) rfl (decide_eq_true hc)
      clear hc
      refine c_true F rfl ?_
      refine wp_skip ?_
      refine H30 _ _ ?_
      refine c_seq (fun K32 H33 => ?_)
      refine wp_block ?_
      refine c_seq (fun K34 H35 => ?_)
      refine c_region ?_
      refine stp F (f_move rfl) rfl rfl rfl (fun ac F => ?_)
      refine stp F (f_assign rfl) rfl rfl rfl (fun ac F => ?_)
      refine stpEnd ?_
      refine H35 _ _ ?_
      refine c_draw 10 (by rfl) (by decide +kernel) (fun wx => Kp [] wl25 wx) (Kp.drew _) ?_
      refine tP F rfl (fun wq => f_move rfl) rfl rfl rfl (fun ac F => ?_)
      refine tP F rfl (fun wq => f_move rfl) rfl rfl rfl (fun ac F => ?_)
      refine tP F rfl (fun wq => f_indexA (r := ⟨g3, k * 1, none⟩) rfl rfl Tryd.underlying30 Tryd.sizeOf3 (by omega) (by omega) (add_eq (by omega))) rfl rfl rfl (fun ac F => ?_)
      refine tQ F rfl (fun wq hq => f_load1 (v := .int .i64 ((mxK a b k) k)) rfl Tryd.isAgg3 (((hb5.keep hq (by simp)).cell _).trans (six (o := 0) (q := k * 1) (f := fun i_ => .int .i64 ((mxK a b k) i_)) rfl rfl rfl rfl rfl rfl (j := k) (by omega) (by omega)))) rfl rfl rfl (fun ac F => ?_)
      refine tP F rfl (fun wq => f_move rfl) rfl rfl rfl (fun ac F => ?_)
      refine tP F rfl (fun wq => f_indexA (r := ⟨g9, k * 1, none⟩) rfl rfl Tryd.underlying30 Tryd.sizeOf3 (by omega) (by omega) (add_eq (by omega))) rfl rfl rfl (fun ac F => ?_)
      refine tQ F rfl (fun wq hq => f_load1 (v := .int .i64 (b k)) rfl Tryd.isAgg3 (((hb11.keep hq (by simp)).cell _).trans (six (o := 0) (q := k * 1) (f := fun i_ => .int .i64 (b i_)) rfl rfl rfl rfl rfl rfl (j := k) (by omega) (by omega)))) rfl rfl rfl (fun ac F => ?_)
      refine tP F rfl (fun wq => f_max rfl rfl rfl) rfl rfl rfl (fun ac F => ?_)
      refine tP F rfl (fun wq => f_indexA (r := ⟨g3, k * 1, none⟩) rfl rfl Tryd.underlying30 Tryd.sizeOf3 (by omega) (by omega) (add_eq (by omega))) rfl rfl rfl (fun ac F => ?_)
      refine tW (C' := (fun wx => Kp [g3] wl25 wx ∧ Blk wx g3 30 ([.int .i64 ((upd (mxK a b k) k (max ((mxK a b k) k) (b k))) 0), .int .i64 ((upd (mxK a b k) k (max ((mxK a b k) k) (b k))) 1), .int .i64 ((upd (mxK a b k) k (max ((mxK a b k) k) (b k))) 2), .int .i64 ((upd (mxK a b k) k (max ((mxK a b k) k) (b k))) 3), .int .i64 ((upd (mxK a b k) k (max ((mxK a b k) k) (b k))) 4), .int .i64 ((upd (mxK a b k) k (max ((mxK a b k) k) (b k))) 5)]))) F rfl (fun wq hq => FiresW.mono (f_store (v := .int .i64 (max ((mxK a b k) k) (b k))) (vs := [.int .i64 (max ((mxK a b k) k) (b k))]) rfl rfl (hb5.keep hq (by simp)) Tryd.sizeOf3 rfl rfl (by simp; omega) (by simp [plainV])) (fun wx h2 => ⟨(hq.mono (M' := [g3]) (by simp)).trans h2.kp (by intro x hx _; exact hx), ((h2.blk).eqv (vec_put (by omega) (by omega)))⟩)) rfl rfl (fun ac F => ?_)
      refine tEnd (fun w38 hq => ?_)
      obtain ⟨hq, hn⟩ := hq
      have hsz := hq.size
      replace hb11 := hb11.keep hq (by have := hb11.lt; simp; omega)
      replace hb17 := hb17.keep hq (by have := hb17.lt; simp; omega)
      replace kp0 := kp0.trans hq (by intro x hx hl; simp at hx; omega)
      replace hb5 : Blk w38 g3 30 ([.int .i64 ((upd (mxK a b k) k (max ((mxK a b k) k) (b k))) 0), .int .i64 ((upd (mxK a b k) k (max ((mxK a b k) k) (b k))) 1), .int .i64 ((upd (mxK a b k) k (max ((mxK a b k) k) (b k))) 2), .int .i64 ((upd (mxK a b k) k (max ((mxK a b k) k) (b k))) 3), .int .i64 ((upd (mxK a b k) k (max ((mxK a b k) k) (b k))) 4), .int .i64 ((upd (mxK a b k) k (max ((mxK a b k) k) (b k))) 5)]) := hn
      refine H33 _ _ ?_
      refine c_region ?_
      refine stp F (f_add (r := ((k + 1 : Nat) : Int)) rfl rfl (by rw [IntKind.wrap_i64]; omega)) rfl rfl rfl (fun ac F => ?_)
      refine stp F (f_move rfl) rfl rfl rfl (fun ac F => ?_)
      refine stpEnd ?_
      rw [mxK_next] at hb5
      refine ⟨6 - (k + 1), ?_, (k + 1), F.sub ⟨rfl, rfl, rfl, rfl, trivial⟩, kp0, hb5, hb11, hb17, by omega, rfl⟩
      omega
    · have hc := hc31
      replace F := F.setb (k := 7) (b' := false) rfl (decide_eq_false hc)
      clear hc
      refine c_false F rfl ?_
      refine wp_exit ?_
      refine H22 _ _ ?_
      refine c_seq (fun K39 H40 => ?_)
      refine c_region ?_
      refine stp F (f_loadN rfl Tryd.isAgg30 Tryd.sizeOf30 hb5.rdAll) rfl rfl rfl (fun ac F => ?_)
      refine stpW F (f_store (v := .agg #[.int .i64 ((mxK a b k) 0), .int .i64 ((mxK a b k) 1), .int .i64 ((mxK a b k) 2), .int .i64 ((mxK a b k) 3), .int .i64 ((mxK a b k) 4), .int .i64 ((mxK a b k) 5)]) (vs := [.int .i64 ((mxK a b k) 0), .int .i64 ((mxK a b k) 1), .int .i64 ((mxK a b k) 2), .int .i64 ((mxK a b k) 3), .int .i64 ((mxK a b k) 4), .int .i64 ((mxK a b k) 5)]) rfl rfl hb17 Tryd.sizeOf30 rfl rfl (by simp) (by simp [plainV])) rfl rfl ?_
      rintro w41 ac wr42 F
      have z43 := wr42.size
      have hsz := (wr42.kp).size
      replace hb5 := hb5.keep (wr42.kp) (by have := hb5.lt; simp; omega)
      replace hb11 := hb11.keep (wr42.kp) (by have := hb11.lt; simp; omega)
      replace kp0 := kp0.trans (wr42.kp) (by intro x hx hl; simp at hx; omega)
      replace hb17 : Blk w41 g15 30 ([.int .i64 ((mxK a b k) 0), .int .i64 ((mxK a b k) 1), .int .i64 ((mxK a b k) 2), .int .i64 ((mxK a b k) 3), .int .i64 ((mxK a b k) 4), .int .i64 ((mxK a b k) 5)]) := wr42.blk
      refine stpEnd ?_
      refine H40 _ _ ?_
      refine wp_ret ?_
      refine retR1 F rfl ⟨_, rfl, run_loadVarN Tryd.isAgg30 Tryd.sizeOf30 hb17.rdAll⟩ ?_
      have hk6 : k = 6 := by omega
      subst hk6
      exact ⟨rfl, kp0⟩

set_option maxHeartbeats 4000000 in
theorem within_c (a b : Nat → Int) (w0 : World) : Calls Tryd.prog 15 #[.agg #[.int .i64 (a 0), .int .i64 (a 1), .int .i64 (a 2), .int .i64 (a 3), .int .i64 (a 4), .int .i64 (a 5)], .agg #[.int .i64 (b 0), .int .i64 (b 1), .int .i64 (b 2), .int .i64 (b 3), .int .i64 (b 4), .int .i64 (b 5)]] w0 (Ret fun v w' => v = .bool (decide (EqV (mxK a b 6) b)) ∧ Kp [] w0 w') := by
  refine enter (n := 10) Tryd.func15 rfl rfl rfl (fun ac F => ?_)
  have kp0 := Kp.refl ([] : List Nat) w0
  refine c_seq (fun K1 H2 => ?_)
  refine c_region ?_
  refine stpE F (f_box (cs := [.int .i64 (a 0), .int .i64 (a 1), .int .i64 (a 2), .int .i64 (a 3), .int .i64 (a 4), .int .i64 (a 5)]) rfl rfl) rfl rfl rfl ?_
  rintro _ w4 ac ⟨g3, rfl, nb6⟩ F
  have n7 := nb6.num
  have z8 := nb6.size
  have hsz := (nb6.kp).size
  replace kp0 := kp0.trans (nb6.kp) (by simp)
  have hb5 : Blk w4 g3 30 ([.int .i64 (a 0), .int .i64 (a 1), .int .i64 (a 2), .int .i64 (a 3), .int .i64 (a 4), .int .i64 (a 5)]) := nb6.blk
  refine stpE F (f_box (cs := [.int .i64 (b 0), .int .i64 (b 1), .int .i64 (b 2), .int .i64 (b 3), .int .i64 (b 4), .int .i64 (b 5)]) rfl rfl) rfl rfl rfl ?_
  rintro _ w10 ac ⟨g9, rfl, nb12⟩ F
  have n13 := nb12.num
  have z14 := nb12.size
  have hsz := (nb12.kp).size
  replace hb5 := hb5.keep (nb12.kp) (by simp)
  replace kp0 := kp0.trans (nb12.kp) (by simp)
  have hb11 : Blk w10 g9 30 ([.int .i64 (b 0), .int .i64 (b 1), .int .i64 (b 2), .int .i64 (b 3), .int .i64 (b 4), .int .i64 (b 5)]) := nb12.blk
  refine stp F (f_assign rfl) rfl rfl rfl (fun ac F => ?_)
  refine stpEnd ?_
  refine H2 _ _ ?_
  refine c_seq (fun K15 H16 => ?_)
  refine c_draw 6 (by rfl) (by decide +kernel) (fun wx => Kp [] w10 wx) (Kp.drew _) ?_
  refine tQ F rfl (fun wq hq => f_loadN rfl Tryd.isAgg30 Tryd.sizeOf30 (hb5.keep hq (by simp)).rdAll) rfl rfl rfl (fun ac F => ?_)
  refine tQ F rfl (fun wq hq => f_loadN rfl Tryd.isAgg30 Tryd.sizeOf30 (hb11.keep hq (by simp)).rdAll) rfl rfl rfl (fun ac F => ?_)
  refine tC F rfl (fun wq => f_call (P := Tryd.prog) (f := 29) (vs := [.agg #[.int .i64 (a 0), .int .i64 (a 1), .int .i64 (a 2), .int .i64 (a 3), .int .i64 (a 4), .int .i64 (a 5)], .agg #[.int .i64 (b 0), .int .i64 (b 1), .int .i64 (b 2), .int .i64 (b 3), .int .i64 (b 4), .int .i64 (b 5)]]) rfl Tryd.call29) (fun wq hq => (max_c a b wq).mono fun e w h => by cases e <;> first | exact ⟨h.1, hq.trans h.2 (by simp)⟩ | exact h.elim) rfl rfl rfl (fun ac F => ?_)
  refine tQ F rfl (fun wq hq => f_loadN rfl Tryd.isAgg30 Tryd.sizeOf30 (hb11.keep hq (by simp)).rdAll) rfl rfl rfl (fun ac F => ?_)
  refine tP F rfl (fun wq => f_eqVec (a := (mxK a b 6)) (b := b) rfl rfl) rfl rfl rfl (fun ac F => ?_)
  refine tP F rfl (fun wq => f_assign rfl) rfl rfl rfl (fun ac F => ?_)
  refine tEnd (fun w17 hq => ?_)
  have hsz := hq.size
  replace hb5 := hb5.keep hq (by simp)
  replace hb11 := hb11.keep hq (by simp)
  replace kp0 := kp0.trans hq (by simp)
  refine H16 _ _ ?_
  refine wp_ret ?_
  refine ret1 F rfl rfl ?_
  exact ⟨rfl, kp0⟩

set_option maxHeartbeats 4000000 in
theorem compare_c (a b : Nat → Int) (w0 : World) : Calls Tryd.prog 10 #[.agg #[.int .i64 (a 0), .int .i64 (a 1), .int .i64 (a 2), .int .i64 (a 3), .int .i64 (a 4), .int .i64 (a 5)], .agg #[.int .i64 (b 0), .int .i64 (b 1), .int .i64 (b 2), .int .i64 (b 3), .int .i64 (b 4), .int .i64 (b 5)]] w0 (Ret fun v w' => ∃ r : Int, v = .int .i64 r ∧ (r = 1 → EqV (mxK a b 6) b) ∧ Kp [] w0 w') := by
  refine enter (n := 17) Tryd.func10 rfl rfl rfl (fun ac F => ?_)
  have kp0 := Kp.refl ([] : List Nat) w0
  refine c_seq (fun K1 H2 => ?_)
  refine c_region ?_
  refine stpE F (f_box (cs := [.int .i64 (a 0), .int .i64 (a 1), .int .i64 (a 2), .int .i64 (a 3), .int .i64 (a 4), .int .i64 (a 5)]) rfl rfl) rfl rfl rfl ?_
  rintro _ w4 ac ⟨g3, rfl, nb6⟩ F
  have n7 := nb6.num
  have z8 := nb6.size
  have hsz := (nb6.kp).size
  replace kp0 := kp0.trans (nb6.kp) (by simp)
  have hb5 : Blk w4 g3 30 ([.int .i64 (a 0), .int .i64 (a 1), .int .i64 (a 2), .int .i64 (a 3), .int .i64 (a 4), .int .i64 (a 5)]) := nb6.blk
  refine stpE F (f_box (cs := [.int .i64 (b 0), .int .i64 (b 1), .int .i64 (b 2), .int .i64 (b 3), .int .i64 (b 4), .int .i64 (b 5)]) rfl rfl) rfl rfl rfl ?_
  rintro _ w10 ac ⟨g9, rfl, nb12⟩ F
  have n13 := nb12.num
  have z14 := nb12.size
  have hsz := (nb12.kp).size
  replace hb5 := hb5.keep (nb12.kp) (by simp)
  replace kp0 := kp0.trans (nb12.kp) (by simp)
  have hb11 : Blk w10 g9 30 ([.int .i64 (b 0), .int .i64 (b 1), .int .i64 (b 2), .int .i64 (b 3), .int .i64 (b 4), .int .i64 (b 5)]) := nb12.blk
  refine stp F (f_assign rfl) rfl rfl rfl (fun ac F => ?_)
  refine stpEnd ?_
  refine H2 _ _ ?_
  refine c_seq (fun K15 H16 => ?_)
  refine wp_block ?_
  refine c_seq (fun K17 H18 => ?_)
  refine c_region ?_
  refine stp F (f_loadN rfl Tryd.isAgg30 Tryd.sizeOf30 hb5.rdAll) rfl rfl rfl (fun ac F => ?_)
  refine stp F (f_loadN rfl Tryd.isAgg30 Tryd.sizeOf30 hb11.rdAll) rfl rfl rfl (fun ac F => ?_)
  refine stp F (f_eqVec (a := a) (b := b) rfl rfl) rfl rfl rfl (fun ac F => ?_)
  refine stp F (f_assign rfl) rfl rfl rfl (fun ac F => ?_)
  refine stpEnd ?_
  refine H18 _ _ ?_
  by_cases hc19 : EqV a b
  · have hc := hc19
    replace F := F.setb (k := 8) (b' := true) rfl (decide_eq_true hc)
    replace F := F.setb (k := 5) (b' := true) rfl (decide_eq_true hc)
    clear hc
    refine c_true F rfl ?_
    refine c_seq (fun K20 H21 => ?_)
    refine c_region ?_
    refine stp F (f_assign rfl) rfl rfl rfl (fun ac F => ?_)
    refine stpEnd ?_
    refine H21 _ _ ?_
    refine wp_ret ?_
    refine ret1 F rfl rfl ?_
    exact ⟨_, rfl, fun h => (by first | exact absurd h (by decide) | assumption), kp0⟩
  · have hc := hc19
    replace F := F.setb (k := 8) (b' := false) rfl (decide_eq_false hc)
    replace F := F.setb (k := 5) (b' := false) rfl (decide_eq_false hc)
    clear hc
    refine c_false F rfl ?_
    refine c_seq (fun K22 H23 => ?_)
    refine c_region ?_
    refine stp F (f_loadN rfl Tryd.isAgg30 Tryd.sizeOf30 hb5.rdAll) rfl rfl rfl (fun ac F => ?_)
    refine stp F (f_loadN rfl Tryd.isAgg30 Tryd.sizeOf30 hb11.rdAll) rfl rfl rfl (fun ac F => ?_)
    refine stpC F (f_call (P := Tryd.prog) (f := 15) (vs := [.agg #[.int .i64 (a 0), .int .i64 (a 1), .int .i64 (a 2), .int .i64 (a 3), .int .i64 (a 4), .int .i64 (a 5)], .agg #[.int .i64 (b 0), .int .i64 (b 1), .int .i64 (b 2), .int .i64 (b 3), .int .i64 (b 4), .int .i64 (b 5)]]) rfl Tryd.call15) (within_c a b _) rfl rfl rfl ?_
    rintro _ w24 ac ⟨rfl, kq25⟩ F
    have hsz := (kq25).size
    replace hb5 := hb5.keep (kq25) (by simp)
    replace hb11 := hb11.keep (kq25) (by simp)
    replace kp0 := kp0.trans (kq25) (by simp)
    refine stp F (f_assign rfl) rfl rfl rfl (fun ac F => ?_)
    refine stpEnd ?_
    refine H23 _ _ ?_
    by_cases hc26 : EqV (mxK a b 6) b
    · have hc := hc26
      replace F := F.setb (k := 12) (b' := true) rfl (decide_eq_true hc)
      replace F := F.setb (k := 9) (b' := true) rfl (decide_eq_true hc)
      clear hc
      refine c_true F rfl ?_
      refine c_seq (fun K27 H28 => ?_)
      refine c_region ?_
      refine stp F (f_assign rfl) rfl rfl rfl (fun ac F => ?_)
      refine stpEnd ?_
      refine H28 _ _ ?_
      refine wp_ret ?_
      refine ret1 F rfl rfl ?_
      exact ⟨_, rfl, fun h => (by first | exact absurd h (by decide) | assumption), kp0⟩
    · have hc := hc26
      replace F := F.setb (k := 12) (b' := false) rfl (decide_eq_false hc)
      replace F := F.setb (k := 9) (b' := false) rfl (decide_eq_false hc)
      clear hc
      refine c_false F rfl ?_
      refine c_seq (fun K29 H30 => ?_)
      refine c_region ?_
      refine stp F (f_loadN rfl Tryd.isAgg30 Tryd.sizeOf30 hb11.rdAll) rfl rfl rfl (fun ac F => ?_)
      refine stp F (f_loadN rfl Tryd.isAgg30 Tryd.sizeOf30 hb5.rdAll) rfl rfl rfl (fun ac F => ?_)
      refine stpC F (f_call (P := Tryd.prog) (f := 15) (vs := [.agg #[.int .i64 (b 0), .int .i64 (b 1), .int .i64 (b 2), .int .i64 (b 3), .int .i64 (b 4), .int .i64 (b 5)], .agg #[.int .i64 (a 0), .int .i64 (a 1), .int .i64 (a 2), .int .i64 (a 3), .int .i64 (a 4), .int .i64 (a 5)]]) rfl Tryd.call15) (within_c b a _) rfl rfl rfl ?_
      rintro _ w31 ac ⟨rfl, kq32⟩ F
      have hsz := (kq32).size
      replace hb5 := hb5.keep (kq32) (by simp)
      replace hb11 := hb11.keep (kq32) (by simp)
      replace kp0 := kp0.trans (kq32) (by simp)
      refine stp F (f_assign rfl) rfl rfl rfl (fun ac F => ?_)
      refine stpEnd ?_
      refine H30 _ _ ?_
      by_cases hc33 : EqV (mxK b a 6) a
      · have hc := hc33
        replace F := F.setb (k := 16) (b' := true) rfl (decide_eq_true hc)
        replace F := F.setb (k := 13) (b' := true) rfl (decide_eq_true hc)
        clear hc
        refine c_true F rfl ?_
        refine c_seq (fun K34 H35 => ?_)
        refine c_region ?_
        refine stp F (f_assign rfl) rfl rfl rfl (fun ac F => ?_)
        refine stpEnd ?_
        refine H35 _ _ ?_
        refine wp_ret ?_
        refine ret1 F rfl rfl ?_
        exact ⟨_, rfl, fun h => (by first | exact absurd h (by decide) | assumption), kp0⟩
      · have hc := hc33
        replace F := F.setb (k := 16) (b' := false) rfl (decide_eq_false hc)
        replace F := F.setb (k := 13) (b' := false) rfl (decide_eq_false hc)
        clear hc
        refine c_false F rfl ?_
        refine wp_skip ?_
        refine H16 _ _ ?_
        refine c_seq (fun K36 H37 => ?_)
        refine c_region ?_
        refine stp F (f_assign rfl) rfl rfl rfl (fun ac F => ?_)
        refine stpEnd ?_
        refine H37 _ _ ?_
        refine wp_ret ?_
        refine ret1 F rfl rfl ?_
        exact ⟨_, rfl, fun h => (by first | exact absurd h (by decide) | assumption), kp0⟩

end Go.Proofs.YtkbngaollbmcbaaDoor.KK

namespace Go.Proofs.YtkbngaollbmcbaaDoor.KK
open Go Go.RowKit

set_option maxHeartbeats 4000000 in
theorem order_c (A : Option Addr) (c : Nat) (ps : List Pst) (w0 : World) (hl0 : Sl w0 0 w0.heap.size 3 A ps.length c (fun i => psV (ps.getD i default))) (hps : ∀ x ∈ ps, Pst.ok x) (hn : ps.length ≤ 9223372036854775807) (htab : Tab Tryd.prog w0) : Calls Tryd.prog 5 #[.slice A ps.length c] w0 (Ret fun v w' => v = .bool true ∧ Kp [] w0 w') := by
  refine enter (n := 84) Tryd.func5 rfl rfl rfl (fun ac F => ?_)
  have kp0 := Kp.refl ([] : List Nat) w0
  have hls := hl0
  refine c_seq (fun K1 H2 => ?_)
  refine c_region ?_
  refine stp F (f_assign rfl) rfl rfl rfl (fun ac F => ?_)
  refine stpEnd ?_
  refine H2 _ _ ?_
  refine c_seq (fun K3 H4 => ?_)
  refine c_seq (fun K5 H6 => ?_)
  refine c_region ?_
  refine stp F (f_build (vs := []) (v := .agg #[.int .i64 0, .int .i64 0, .int .i64 0]) rfl (fun w => by kernel_rfl)) rfl rfl rfl (fun ac F => ?_)
  refine stp F (f_build (vs := [(0, .int .i64 1), (1, .int .i64 1)]) (v := .agg #[.int .i64 1, .int .i64 1, .int .i64 0]) rfl (fun w => by kernel_rfl)) rfl rfl rfl (fun ac F => ?_)
  refine stp F (f_build (vs := [(1, .int .i64 1)]) (v := .agg #[.int .i64 0, .int .i64 1, .int .i64 0]) rfl (fun w => by kernel_rfl)) rfl rfl rfl (fun ac F => ?_)
  refine stp F (f_build (vs := [(0, .int .i64 1), (1, .int .i64 2), (2, .int .i64 1)]) (v := .agg #[.int .i64 1, .int .i64 2, .int .i64 1]) rfl (fun w => by kernel_rfl)) rfl rfl rfl (fun ac F => ?_)
  refine stp F (f_build (vs := [(0, .int .i64 1), (1, .int .i64 2)]) (v := .agg #[.int .i64 1, .int .i64 2, .int .i64 0]) rfl (fun w => by kernel_rfl)) rfl rfl rfl (fun ac F => ?_)
  refine stpE F (f_buildSlice (el := 27) (vs := [(0, .agg #[.int .i64 0, .int .i64 0, .int .i64 0]), (1, .agg #[.int .i64 1, .int .i64 1, .int .i64 0]), (2, .agg #[.int .i64 0, .int .i64 1, .int .i64 0]), (3, .agg #[.int .i64 1, .int .i64 2, .int .i64 1]), (4, .agg #[.int .i64 1, .int .i64 2, .int .i64 0])]) (cs := [.int .i64 0, .int .i64 0, .int .i64 0, .int .i64 1, .int .i64 1, .int .i64 0, .int .i64 0, .int .i64 1, .int .i64 0, .int .i64 1, .int .i64 2, .int .i64 1, .int .i64 1, .int .i64 2, .int .i64 0]) rfl (fun w => by kernel_rfl)) rfl rfl rfl ?_
  rintro _ w8 ac ⟨g7, rfl, nb9⟩ F
  have n11 := nb9.num
  have z12 := nb9.size
  have hsz := (nb9.kp).size
  replace hl0 := hl0.keep (nb9.kp) (by simp)
  replace kp0 := kp0.trans (nb9.kp) (by simp)
  have hb10 : Blk w8 g7 27 ([.int .i64 0, .int .i64 0, .int .i64 0, .int .i64 1, .int .i64 1, .int .i64 0, .int .i64 0, .int .i64 1, .int .i64 0, .int .i64 1, .int .i64 2, .int .i64 1, .int .i64 1, .int .i64 2, .int .i64 0]) := nb9.blk
  refine stpC F (f_call (P := Tryd.prog) (f := 6) (vs := [.slice (some ⟨g7, 0, none⟩) 5 5]) rfl Tryd.call6) (play_c (some ⟨g7, 0, none⟩) 5 order0 _ (ps_sl hb10 rfl (by decide)) (by decide +kernel) (by decide) (ok_take _) (htab.kp kp0)) rfl rfl rfl ?_
  rintro _ w13 ac ⟨ga, rfl, kq14, Ra, hva, hga, hRa⟩ F
  have hsz := (kq14).size
  replace hl0 := hl0.keep (kq14) (by simp)
  replace hb10 := hb10.keep (kq14) (by simp)
  replace kp0 := kp0.trans (kq14) (by simp)
  have h7 := (hRa.own 7 (by omega)).msl
  have h7l : (Ra 7).vs.length = 2 := by rw [hva, order0_told]
  have h7f : ((Ra 7).vs.getD 0 default).f = 0 := by rw [hva, order0_from]
  refine stp F (f_move rfl) rfl rfl rfl (fun ac F => ?_)
  refine stp F (f_extract (vs := [.pointer (some ⟨ga, 0, none⟩), .bool true]) rfl rfl) rfl rfl rfl (fun ac F => ?_)
  refine stp F (f_extract (vs := [.pointer (some ⟨ga, 0, none⟩), .bool true]) rfl rfl) rfl rfl rfl (fun ac F => ?_)
  refine stp F (f_assign rfl) rfl rfl rfl (fun ac F => ?_)
  refine stp F (f_assign rfl) rfl rfl rfl (fun ac F => ?_)
  refine stpEnd ?_
  refine H6 _ _ ?_
  refine c_seq (fun K15 H16 => ?_)
  refine c_region ?_
  refine stp F (f_move rfl) rfl rfl rfl (fun ac F => ?_)
  refine stp F (f_not rfl) rfl rfl rfl (fun ac F => ?_)
  refine stp F (f_move rfl) rfl rfl rfl (fun ac F => ?_)
  refine stp F (f_move rfl) rfl rfl rfl (fun ac F => ?_)
  refine stp F (f_nilCheck rfl) rfl rfl rfl (fun ac F => ?_)
  refine stp F (f_fieldAddr (r := ⟨ga, 33, none⟩) (sz := 3) rfl Tryd.underlying36 rfl Tryd.sizeOf34 rfl) rfl rfl rfl (fun ac F => ?_)
  refine stp F (f_indexA (r := ⟨ga, 35, none⟩) rfl rfl Tryd.underlying34 Tryd.sizeOf28 (by omega) (by omega) rfl) rfl rfl rfl (fun ac F => ?_)
  refine stp F (f_load1 (v := .slice ((Ra 7).A) ((Ra 7).vs.length) ((Ra 7).c)) rfl Tryd.isAgg28 ((hga.cell _).trans rfl)) rfl rfl rfl (fun ac F => ?_)
  refine stp F (f_len rfl Tryd.underlying28) rfl rfl rfl (fun ac F => ?_)
  refine stp F (f_neq rfl rfl) rfl rfl rfl (fun ac F => ?_)
  refine stp F (f_pickF rfl rfl) rfl rfl rfl (fun ac F => ?_)
  refine stp F (f_move rfl) rfl rfl rfl (fun ac F => ?_)
  have hc : (((Ra 7).vs.length : Nat) : Int) = 2 := by omega
  replace F := F.setb (k := 32) (b' := false) rfl (nt (decide_eq_true hc))
  replace F := F.setb (k := 33) (b' := false) rfl (nt (decide_eq_true hc))
  replace F := F.setb (k := 34) (b' := false) rfl (nt (decide_eq_true hc))
  refine stp F (f_move rfl) rfl rfl rfl (fun ac F => ?_)
  refine stp F (f_nilCheck rfl) rfl rfl rfl (fun ac F => ?_)
  refine stp F (f_fieldAddr (r := ⟨ga, 33, none⟩) (sz := 3) rfl Tryd.underlying36 rfl Tryd.sizeOf34 rfl) rfl rfl rfl (fun ac F => ?_)
  refine stp F (f_indexA (r := ⟨ga, 35, none⟩) rfl rfl Tryd.underlying34 Tryd.sizeOf28 (by omega) (by omega) rfl) rfl rfl rfl (fun ac F => ?_)
  refine stp F (f_load1 (v := .slice ((Ra 7).A) ((Ra 7).vs.length) ((Ra 7).c)) rfl Tryd.isAgg28 ((hga.cell _).trans rfl)) rfl rfl rfl (fun ac F => ?_)
  refine stp F (f_indexS (r := ((adr ((Ra 7).A)).add (0 * 8))) rfl rfl Tryd.underlying28 Tryd.sizeOf38 (by omega) (by omega) (h7.some_ (by omega)).1 (by rw [show Int.toNat 0 = 0 from by omega])) rfl rfl rfl (fun ac F => ?_)
  refine stp F (f_fieldAddr (r := (((adr ((Ra 7).A)).add (0 * 8)).add 0)) (sz := 0) rfl Tryd.underlying38 rfl Tryd.sizeOf3 rfl) rfl rfl rfl (fun ac F => ?_)
  refine stp F (f_load1 (v := .int .i64 (((Ra 7).vs.getD 0 default).f)) rfl Tryd.isAgg3 ((h7.at_ 0 (by omega)).2 0 _ rfl)) rfl rfl rfl (fun ac F => ?_)
  refine stp F (f_neq rfl rfl) rfl rfl rfl (fun ac F => ?_)
  refine stp F (f_pickF rfl rfl) rfl rfl rfl (fun ac F => ?_)
  refine stpEnd ?_
  refine H16 _ _ ?_
  have hc : ((Ra 7).vs.getD 0 default).f = 0 := by exact h7f
  replace F := F.setb (k := 43) (b' := false) rfl (nt (decide_eq_true hc))
  replace F := F.setb (k := 44) (b' := false) rfl (nt (decide_eq_true hc))
  refine c_false F rfl ?_
  refine wp_skip ?_
  refine H4 _ _ ?_
  refine c_seq (fun K17 H18 => ?_)
  refine c_region ?_
  refine stp F (f_move rfl) rfl rfl rfl (fun ac F => ?_)
  refine stpC F (f_call (P := Tryd.prog) (f := 6) (vs := [.slice A ps.length c]) rfl Tryd.call6) (play_c A c ps _ ((hls.keep kp0 (by simp)).more (Nat.zero_le _) (by omega)) hps hn (ok_take _) (htab.kp kp0)) rfl rfl rfl ?_
  rintro _ w19 ac ⟨gb, rfl, kq20, R, hv, hgb, hR⟩ F
  have hsz := (kq20).size
  replace hga := hga.keep (kq20) (by simp)
  replace h7 := h7.keep (kq20) (by simp)
  replace kp0 := kp0.trans (kq20) (by simp)
  have hbase : w0.heap.size ≤ w13.heap.size := by omega
  have hI := Inv.play ps
  have hCh : ∀ p : Nat, p < 4 → Chain (fun _ => 0) (R (5 + p)).vs ((playN ps).sn p) := fun p hp => by rw [hv]; exact hI.chain p hp
  have hTl : ∀ p : Nat, p < 4 → (R (5 + p)).vs.length ≤ 200000000 := fun p hp => by rw [hv]; exact hI.ok.told p hp
  refine stp F (f_move rfl) rfl rfl rfl (fun ac F => ?_)
  refine stp F (f_extract (vs := [.pointer (some ⟨gb, 0, none⟩), .bool true]) rfl rfl) rfl rfl rfl (fun ac F => ?_)
  refine stp F (f_extract (vs := [.pointer (some ⟨gb, 0, none⟩), .bool true]) rfl rfl) rfl rfl rfl (fun ac F => ?_)
  refine stp F (f_assign rfl) rfl rfl rfl (fun ac F => ?_)
  refine stp F (f_assign rfl) rfl rfl rfl (fun ac F => ?_)
  refine stpEnd ?_
  refine H18 _ _ ?_
  refine c_seq (fun K21 H22 => ?_)
  refine c_seq (fun K23 H24 => ?_)
  refine c_region ?_
  refine stp F (f_move rfl) rfl rfl rfl (fun ac F => ?_)
  refine stp F (f_not rfl) rfl rfl rfl (fun ac F => ?_)
  refine stpEnd ?_
  refine H24 _ _ ?_
  refine c_false F rfl ?_
  refine wp_skip ?_
  refine H22 _ _ ?_
  refine c_seq (fun K25 H26 => ?_)
  refine c_seq (fun K27 H28 => ?_)
  refine c_region ?_
  refine stp F (f_move rfl) rfl rfl rfl (fun ac F => ?_)
  refine stp F (f_nilCheck rfl) rfl rfl rfl (fun ac F => ?_)
  refine stp F (f_fieldAddr (r := ⟨gb, 33, none⟩) (sz := 3) rfl Tryd.underlying36 rfl Tryd.sizeOf34 rfl) rfl rfl rfl (fun ac F => ?_)
  refine stp F (f_loadN rfl Tryd.isAgg34 Tryd.sizeOf34 (hgb.rd (o := 33) (v := .agg #[.slice ((R 5).A) ((R 5).vs.length) ((R 5).c), .slice ((R 6).A) ((R 6).vs.length) ((R 6).c), .slice ((R 7).A) ((R 7).vs.length) ((R 7).c), .slice ((R 8).A) ((R 8).vs.length) ((R 8).c)]) rfl (by intro j u hu; exact part_at (ps := [.slice ((R 5).A) ((R 5).vs.length) ((R 5).c), .slice ((R 6).A) ((R 6).vs.length) ((R 6).c), .slice ((R 7).A) ((R 7).vs.length) ((R 7).c), .slice ((R 8).A) ((R 8).vs.length) ((R 8).c)]) (by rfl) (by simpa [Value.cells] using hu)))) rfl rfl rfl (fun ac F => ?_)
  refine stp F (f_move rfl) rfl rfl rfl (fun ac F => ?_)
  refine stpEnd ?_
  refine H28 _ _ ?_
  refine wp_block ?_
  refine c_loop (fun mx ax wx => ∃ (p : Nat), Fr ax 84 [(55, .agg #[.slice ((R 5).A) ((R 5).vs.length) ((R 5).c), .slice ((R 6).A) ((R 6).vs.length) ((R 6).c), .slice ((R 7).A) ((R 7).vs.length) ((R 7).c), .slice ((R 8).A) ((R 8).vs.length) ((R 8).c)]), (56, .int .i64 (p : Int))] ∧ Kp [] w0 wx ∧ Rows wx w13.heap.size gb R ∧ (p ≤ 4) ∧ mx = 4 - p) (4 - 0) ?_ ?_
  · exact ⟨0, F.sub ⟨rfl, rfl, trivial⟩, kp0, hR, by omega, rfl⟩
  · clear F kp0 hgb hR
    rintro m30 ac wl29 ⟨p, F, kp0, hR, hp, hm⟩
    have hsz := kp0.size
    refine c_seq (fun K31 H32 => ?_)
    refine c_region ?_
    refine stp F (f_lss rfl rfl) rfl rfl rfl (fun ac F => ?_)
    refine stpEnd ?_
    refine H32 _ _ ?_
    refine c_seq (fun K33 H34 => ?_)
    by_cases hc35 : (p : Int) < 4
    · have hc := hc35
      replace F := F.setb (k := 57) (b' := true) rfl (decide_eq_true hc)
      clear hc
      refine c_true F rfl ?_
      refine wp_skip ?_
      refine H34 _ _ ?_
      refine c_seq (fun K36 H37 => ?_)
      refine wp_block ?_
      refine c_seq (fun K38 H39 => ?_)
      refine c_region ?_
      refine stp F (f_index1 (cs := [.slice ((R 5).A) ((R 5).vs.length) ((R 5).c), .slice ((R 6).A) ((R 6).vs.length) ((R 6).c), .slice ((R 7).A) ((R 7).vs.length) ((R 7).c), .slice ((R 8).A) ((R 8).vs.length) ((R 8).c)]) (v := .slice ((R (5 + p)).A) ((R (5 + p)).vs.length) ((R (5 + p)).c)) rfl rfl Tryd.underlying34 Tryd.isAgg28 Tryd.sizeOf28 (by omega) (by omega) (by rcases four (show p < 4 by omega) with h | h | h | h <;> subst h <;> rfl)) rfl rfl rfl (fun ac F => ?_)
      refine stp F (f_assign rfl) rfl rfl rfl (fun ac F => ?_)
      refine stpEnd ?_
      refine H39 _ _ ?_
      refine c_seq (fun K40 H41 => ?_)
      have hTp := hTl p (by omega)
      refine c_region ?_
      refine stp F (f_move rfl) rfl rfl rfl (fun ac F => ?_)
      refine stp F (f_len rfl Tryd.underlying28) rfl rfl rfl (fun ac F => ?_)
      refine stp F (f_move rfl) rfl rfl rfl (fun ac F => ?_)
      refine stpEnd ?_
      refine H41 _ _ ?_
      refine wp_block ?_
      refine c_loop (fun mx ax wx => ∃ (i : Nat), Fr ax 84 [(55, .agg #[.slice ((R 5).A) ((R 5).vs.length) ((R 5).c), .slice ((R 6).A) ((R 6).vs.length) ((R 6).c), .slice ((R 7).A) ((R 7).vs.length) ((R 7).c), .slice ((R 8).A) ((R 8).vs.length) ((R 8).c)]), (56, .int .i64 (p : Int)), (8, .slice ((R (5 + p)).A) ((R (5 + p)).vs.length) ((R (5 + p)).c)), (59, .slice ((R (5 + p)).A) ((R (5 + p)).vs.length) ((R (5 + p)).c)), (60, .int .i64 (((R (5 + p)).vs.length : Nat) : Int)), (61, .int .i64 (i : Int))] ∧ Kp [] w0 wx ∧ Rows wx w13.heap.size gb R ∧ (i ≤ (R (5 + p)).vs.length) ∧ mx = (R (5 + p)).vs.length - i) ((R (5 + p)).vs.length - 0) ?_ ?_
      · exact ⟨0, F.sub ⟨rfl, rfl, rfl, rfl, rfl, rfl, trivial⟩, kp0, hR, by omega, rfl⟩
      · clear F kp0 hR
        rintro m43 ac wl42 ⟨i, F, kp0, hR, hi0, hm⟩
        have hsz := kp0.size
        have hRl := hR.lt9
        refine c_seq (fun K44 H45 => ?_)
        refine c_region ?_
        refine stp F (f_lss rfl rfl) rfl rfl rfl (fun ac F => ?_)
        refine stpEnd ?_
        refine H45 _ _ ?_
        refine c_seq (fun K46 H47 => ?_)
        by_cases hc48 : (i : Int) < (((R (5 + p)).vs.length : Nat) : Int)
        · have hc := hc48
          replace F := F.setb (k := 62) (b' := true) rfl (decide_eq_true hc)
          clear hc
          refine c_true F rfl ?_
          refine wp_skip ?_
          refine H47 _ _ ?_
          refine c_seq (fun K49 H50 => ?_)
          refine wp_block ?_
          refine c_seq (fun K51 H52 => ?_)
          have hi : i < (R (5 + p)).vs.length := by omega
          have hrow := (hR.own (5 + p) (by omega)).msl
          refine c_region ?_
          refine stp F (f_move rfl) rfl rfl rfl (fun ac F => ?_)
          refine stp F (f_indexS (r := ((adr ((R (5 + p)).A)).add (i * 8))) rfl rfl Tryd.underlying28 Tryd.sizeOf38 (by omega) (by omega) (hrow.some_ (by omega)).1 (by rw [show Int.toNat (i : Int) = i from by omega])) rfl rfl rfl (fun ac F => ?_)
          refine stp F (f_loadN rfl Tryd.isAgg38 Tryd.sizeOf38 (hrow.rd (i := i) (by omega) rfl)) rfl rfl rfl (fun ac F => ?_)
          refine stpE F (f_alloc (cs := [.int .i64 0, .int .i64 0, .int .i64 0, .int .i64 0, .int .i64 0, .int .i64 0, .int .i64 0, .string ByteArray.empty]) Tryd.zeroValue38 rfl) rfl rfl rfl ?_
          rintro _ w54 ac ⟨g53, rfl, nb56⟩ F
          have n57 := nb56.num
          have z58 := nb56.size
          have hsz := (nb56.kp).size
          replace hR := hR.nil (nb56.kp)
          replace hrow := hrow.keep (nb56.kp) (by simp)
          replace kp0 := kp0.trans (nb56.kp) (by simp)
          have hb55 : Blk w54 g53 38 ([.int .i64 0, .int .i64 0, .int .i64 0, .int .i64 0, .int .i64 0, .int .i64 0, .int .i64 0, .string ByteArray.empty]) := nb56.blk
          refine stp F (f_assign rfl) rfl rfl rfl (fun ac F => ?_)
          refine stpW F (f_store (v := .agg #[.int .i64 (((R (5 + p)).vs.getD i default).f), .int .i64 (((R (5 + p)).vs.getD i default).a 0), .int .i64 (((R (5 + p)).vs.getD i default).a 1), .int .i64 (((R (5 + p)).vs.getD i default).a 2), .int .i64 (((R (5 + p)).vs.getD i default).a 3), .int .i64 (((R (5 + p)).vs.getD i default).a 4), .int .i64 (((R (5 + p)).vs.getD i default).a 5), .string (((R (5 + p)).vs.getD i default).t)]) (vs := [.int .i64 (((R (5 + p)).vs.getD i default).f), .int .i64 (((R (5 + p)).vs.getD i default).a 0), .int .i64 (((R (5 + p)).vs.getD i default).a 1), .int .i64 (((R (5 + p)).vs.getD i default).a 2), .int .i64 (((R (5 + p)).vs.getD i default).a 3), .int .i64 (((R (5 + p)).vs.getD i default).a 4), .int .i64 (((R (5 + p)).vs.getD i default).a 5), .string (((R (5 + p)).vs.getD i default).t)]) rfl rfl hb55 Tryd.sizeOf38 rfl rfl (by simp) (by simp [plainV])) rfl rfl ?_
          rintro w59 ac wr60 F
          have z61 := wr60.size
          have hsz := (wr60.kp).size
          replace hR := hR.keep (wr60.kp) (by intro r hr x hx hm; have h1 := hRl r hr x hx; simp at hm; omega)
          replace hrow := hrow.keep (wr60.kp) (by intro x hx; simp at hx; omega)
          replace kp0 := kp0.trans (wr60.kp) (by intro x hx hl; simp at hx; omega)
          replace hb55 : Blk w59 g53 38 ([.int .i64 (((R (5 + p)).vs.getD i default).f), .int .i64 (((R (5 + p)).vs.getD i default).a 0), .int .i64 (((R (5 + p)).vs.getD i default).a 1), .int .i64 (((R (5 + p)).vs.getD i default).a 2), .int .i64 (((R (5 + p)).vs.getD i default).a 3), .int .i64 (((R (5 + p)).vs.getD i default).a 4), .int .i64 (((R (5 + p)).vs.getD i default).a 5), .string (((R (5 + p)).vs.getD i default).t)]) := wr60.blk
          refine stpEnd ?_
          skip
          refine H52 _ _ ?_
          refine c_seq (fun K62 H63 => ?_)
          refine c_region ?_
          refine stp F (f_move rfl) rfl rfl rfl (fun ac F => ?_)
          refine stp F (f_move rfl) rfl rfl rfl (fun ac F => ?_)
          refine stp F (f_add (r := ((i + 1 : Nat) : Int)) rfl rfl (by rw [IntKind.wrap_i64]; omega)) rfl rfl rfl (fun ac F => ?_)
          refine stp F (f_sliceFrom rfl rfl Tryd.underlying28 Tryd.sizeOf38 (by omega) (by omega)) rfl rfl rfl (fun ac F => ?_)
          replace F := F.setv (k := 69) (v' := .slice (cutA (R (5 + p)).A (R (5 + p)).c (i + 1) 8) ((R (5 + p)).vs.length - (i + 1)) ((R (5 + p)).c - (i + 1))) rfl (by rw [Int.toNat_natCast])
          refine stp F (f_len rfl Tryd.underlying28) rfl rfl rfl (fun ac F => ?_)
          refine stp F (f_move rfl) rfl rfl rfl (fun ac F => ?_)
          refine stpEnd ?_
          refine H63 _ _ ?_
          refine wp_block ?_
          refine c_loop (fun mx ax wx => ∃ (q : Nat), Fr ax 84 [(55, .agg #[.slice ((R 5).A) ((R 5).vs.length) ((R 5).c), .slice ((R 6).A) ((R 6).vs.length) ((R 6).c), .slice ((R 7).A) ((R 7).vs.length) ((R 7).c), .slice ((R 8).A) ((R 8).vs.length) ((R 8).c)]), (56, .int .i64 (p : Int)), (8, .slice ((R (5 + p)).A) ((R (5 + p)).vs.length) ((R (5 + p)).c)), (59, .slice ((R (5 + p)).A) ((R (5 + p)).vs.length) ((R (5 + p)).c)), (60, .int .i64 (((R (5 + p)).vs.length : Nat) : Int)), (61, .int .i64 (i : Int)), (10, .pointer (some ⟨g53, 0, none⟩)), (69, .slice (cutA (R (5 + p)).A (R (5 + p)).c (i + 1) 8) ((R (5 + p)).vs.length - (i + 1)) ((R (5 + p)).c - (i + 1))), (70, .int .i64 ((((R (5 + p)).vs.length - (i + 1)) : Nat) : Int)), (71, .int .i64 (q : Int))] ∧ Kp [] w0 wx ∧ Rows wx w13.heap.size gb R ∧ Blk wx g53 38 ([.int .i64 (((R (5 + p)).vs.getD i default).f), .int .i64 (((R (5 + p)).vs.getD i default).a 0), .int .i64 (((R (5 + p)).vs.getD i default).a 1), .int .i64 (((R (5 + p)).vs.getD i default).a 2), .int .i64 (((R (5 + p)).vs.getD i default).a 3), .int .i64 (((R (5 + p)).vs.getD i default).a 4), .int .i64 (((R (5 + p)).vs.getD i default).a 5), .string (((R (5 + p)).vs.getD i default).t)]) ∧ (q ≤ (R (5 + p)).vs.length - (i + 1)) ∧ mx = (R (5 + p)).vs.length - (i + 1) - q) ((R (5 + p)).vs.length - (i + 1) - 0) ?_ ?_
          · exact ⟨0, F.sub ⟨rfl, rfl, rfl, rfl, rfl, rfl, rfl, rfl, rfl, rfl, trivial⟩, kp0, hR, hb55, by omega, rfl⟩
          · clear F kp0 hR hb55
            rintro m65 ac wl64 ⟨q, F, kp0, hR, hb55, hj0, hm⟩
            have hsz := kp0.size
            have lt_hb55 := hb55.lt
            have hRl := hR.lt9
            refine c_seq (fun K66 H67 => ?_)
            refine c_region ?_
            refine stp F (f_lss rfl rfl) rfl rfl rfl (fun ac F => ?_)
            refine stpEnd ?_
            refine H67 _ _ ?_
            refine c_seq (fun K68 H69 => ?_)
            by_cases hc70 : (q : Int) < ((((R (5 + p)).vs.length - (i + 1)) : Nat) : Int)
            · have hc := hc70
              replace F := F.setb (k := 72) (b' := true) rfl (decide_eq_true hc)
              clear hc
              refine c_true F rfl ?_
              refine wp_skip ?_
              refine H69 _ _ ?_
              refine c_seq (fun K71 H72 => ?_)
              refine wp_block ?_
              refine c_seq (fun K73 H74 => ?_)
              have hj : q + (i + 1) < (R (5 + p)).vs.length := by omega
              have hcut := ((hR.own (5 + p) (by omega)).msl).drop (k := i + 1) (by omega)
              refine c_region ?_
              refine stp F (f_indexS (r := ((adr (cutA (R (5 + p)).A (R (5 + p)).c (i + 1) 8)).add (q * 8))) rfl rfl Tryd.underlying28 Tryd.sizeOf38 (by omega) (by omega) (hcut.some_ (by omega)).1 (by rw [show Int.toNat (q : Int) = q from by omega])) rfl rfl rfl (fun ac F => ?_)
              refine stp F (f_loadN rfl Tryd.isAgg38 Tryd.sizeOf38 (hcut.rd (i := q) (by omega) rfl)) rfl rfl rfl (fun ac F => ?_)
              refine stpE F (f_alloc (cs := [.int .i64 0, .int .i64 0, .int .i64 0, .int .i64 0, .int .i64 0, .int .i64 0, .int .i64 0, .string ByteArray.empty]) Tryd.zeroValue38 rfl) rfl rfl rfl ?_
              rintro _ w76 ac ⟨g75, rfl, nb78⟩ F
              have n79 := nb78.num
              have z80 := nb78.size
              have hsz := (nb78.kp).size
              replace hR := hR.nil (nb78.kp)
              replace hb55 := hb55.keep (nb78.kp) (by simp)
              replace hcut := hcut.keep (nb78.kp) (by simp)
              replace kp0 := kp0.trans (nb78.kp) (by simp)
              have hb77 : Blk w76 g75 38 ([.int .i64 0, .int .i64 0, .int .i64 0, .int .i64 0, .int .i64 0, .int .i64 0, .int .i64 0, .string ByteArray.empty]) := nb78.blk
              refine stpW F (f_store (v := .agg #[.int .i64 (((R (5 + p)).vs.getD (q + (i + 1)) default).f), .int .i64 (((R (5 + p)).vs.getD (q + (i + 1)) default).a 0), .int .i64 (((R (5 + p)).vs.getD (q + (i + 1)) default).a 1), .int .i64 (((R (5 + p)).vs.getD (q + (i + 1)) default).a 2), .int .i64 (((R (5 + p)).vs.getD (q + (i + 1)) default).a 3), .int .i64 (((R (5 + p)).vs.getD (q + (i + 1)) default).a 4), .int .i64 (((R (5 + p)).vs.getD (q + (i + 1)) default).a 5), .string (((R (5 + p)).vs.getD (q + (i + 1)) default).t)]) (vs := [.int .i64 (((R (5 + p)).vs.getD (q + (i + 1)) default).f), .int .i64 (((R (5 + p)).vs.getD (q + (i + 1)) default).a 0), .int .i64 (((R (5 + p)).vs.getD (q + (i + 1)) default).a 1), .int .i64 (((R (5 + p)).vs.getD (q + (i + 1)) default).a 2), .int .i64 (((R (5 + p)).vs.getD (q + (i + 1)) default).a 3), .int .i64 (((R (5 + p)).vs.getD (q + (i + 1)) default).a 4), .int .i64 (((R (5 + p)).vs.getD (q + (i + 1)) default).a 5), .string (((R (5 + p)).vs.getD (q + (i + 1)) default).t)]) rfl rfl hb77 Tryd.sizeOf38 rfl rfl (by simp) (by simp [plainV])) rfl rfl ?_
              rintro w81 ac wr82 F
              have z83 := wr82.size
              have hsz := (wr82.kp).size
              replace hR := hR.keep (wr82.kp) (by intro r hr x hx hm; have h1 := hRl r hr x hx; simp at hm; omega)
              replace hb55 := hb55.keep (wr82.kp) (by have := hb55.lt; simp; omega)
              replace hcut := hcut.keep (wr82.kp) (by intro x hx; simp at hx; omega)
              replace kp0 := kp0.trans (wr82.kp) (by intro x hx hl; simp at hx; omega)
              replace hb77 : Blk w81 g75 38 ([.int .i64 (((R (5 + p)).vs.getD (q + (i + 1)) default).f), .int .i64 (((R (5 + p)).vs.getD (q + (i + 1)) default).a 0), .int .i64 (((R (5 + p)).vs.getD (q + (i + 1)) default).a 1), .int .i64 (((R (5 + p)).vs.getD (q + (i + 1)) default).a 2), .int .i64 (((R (5 + p)).vs.getD (q + (i + 1)) default).a 3), .int .i64 (((R (5 + p)).vs.getD (q + (i + 1)) default).a 4), .int .i64 (((R (5 + p)).vs.getD (q + (i + 1)) default).a 5), .string (((R (5 + p)).vs.getD (q + (i + 1)) default).t)]) := wr82.blk
              refine stpEnd ?_
              skip
              refine H74 _ _ ?_
              refine c_seq (fun K84 H85 => ?_)
              refine c_region ?_
              refine stp F (f_fieldAddr (r := ⟨g75, 1, none⟩) (sz := 5) rfl Tryd.underlying38 rfl Tryd.sizeOf30 rfl) rfl rfl rfl (fun ac F => ?_)
              refine stp F (f_loadN (vs := #[.int .i64 (((R (5 + p)).vs.getD (q + (i + 1)) default).a 0), .int .i64 (((R (5 + p)).vs.getD (q + (i + 1)) default).a 1), .int .i64 (((R (5 + p)).vs.getD (q + (i + 1)) default).a 2), .int .i64 (((R (5 + p)).vs.getD (q + (i + 1)) default).a 3), .int .i64 (((R (5 + p)).vs.getD (q + (i + 1)) default).a 4), .int .i64 (((R (5 + p)).vs.getD (q + (i + 1)) default).a 5)]) rfl Tryd.isAgg30 Tryd.sizeOf30 (hb77.rd (o := 1) rfl (by intro j u hu; exact part_at (ps := [.int .i64 (((R (5 + p)).vs.getD (q + (i + 1)) default).a 0), .int .i64 (((R (5 + p)).vs.getD (q + (i + 1)) default).a 1), .int .i64 (((R (5 + p)).vs.getD (q + (i + 1)) default).a 2), .int .i64 (((R (5 + p)).vs.getD (q + (i + 1)) default).a 3), .int .i64 (((R (5 + p)).vs.getD (q + (i + 1)) default).a 4), .int .i64 (((R (5 + p)).vs.getD (q + (i + 1)) default).a 5)]) (by rfl) (by simpa [Value.cells] using hu)))) rfl rfl rfl (fun ac F => ?_)
              refine stp F (f_fieldAddr (r := ⟨g53, 1, none⟩) (sz := 5) rfl Tryd.underlying38 rfl Tryd.sizeOf30 rfl) rfl rfl rfl (fun ac F => ?_)
              refine stp F (f_loadN (vs := #[.int .i64 (((R (5 + p)).vs.getD i default).a 0), .int .i64 (((R (5 + p)).vs.getD i default).a 1), .int .i64 (((R (5 + p)).vs.getD i default).a 2), .int .i64 (((R (5 + p)).vs.getD i default).a 3), .int .i64 (((R (5 + p)).vs.getD i default).a 4), .int .i64 (((R (5 + p)).vs.getD i default).a 5)]) rfl Tryd.isAgg30 Tryd.sizeOf30 (hb55.rd (o := 1) rfl (by intro j u hu; exact part_at (ps := [.int .i64 (((R (5 + p)).vs.getD i default).a 0), .int .i64 (((R (5 + p)).vs.getD i default).a 1), .int .i64 (((R (5 + p)).vs.getD i default).a 2), .int .i64 (((R (5 + p)).vs.getD i default).a 3), .int .i64 (((R (5 + p)).vs.getD i default).a 4), .int .i64 (((R (5 + p)).vs.getD i default).a 5)]) (by rfl) (by simpa [Value.cells] using hu)))) rfl rfl rfl (fun ac F => ?_)
              refine stpC F (f_call (P := Tryd.prog) (f := 10) (vs := [.agg #[.int .i64 (((R (5 + p)).vs.getD (q + (i + 1)) default).a 0), .int .i64 (((R (5 + p)).vs.getD (q + (i + 1)) default).a 1), .int .i64 (((R (5 + p)).vs.getD (q + (i + 1)) default).a 2), .int .i64 (((R (5 + p)).vs.getD (q + (i + 1)) default).a 3), .int .i64 (((R (5 + p)).vs.getD (q + (i + 1)) default).a 4), .int .i64 (((R (5 + p)).vs.getD (q + (i + 1)) default).a 5)], .agg #[.int .i64 (((R (5 + p)).vs.getD i default).a 0), .int .i64 (((R (5 + p)).vs.getD i default).a 1), .int .i64 (((R (5 + p)).vs.getD i default).a 2), .int .i64 (((R (5 + p)).vs.getD i default).a 3), .int .i64 (((R (5 + p)).vs.getD i default).a 4), .int .i64 (((R (5 + p)).vs.getD i default).a 5)]]) rfl Tryd.call10) (compare_c ((R (5 + p)).vs.getD (q + (i + 1)) default).a ((R (5 + p)).vs.getD i default).a _) rfl rfl rfl ?_
              rintro _ w86 ac ⟨r, rfl, hr1, kq87⟩ F
              have hsz := (kq87).size
              replace hR := hR.nil (kq87)
              replace hb55 := hb55.keep (kq87) (by simp)
              replace hb77 := hb77.keep (kq87) (by simp)
              replace kp0 := kp0.trans (kq87) (by simp)
              refine stp F (f_eql rfl rfl) rfl rfl rfl (fun ac F => ?_)
              refine stpEnd ?_
              refine H85 _ _ ?_
              by_cases hc88 : r = 1
              · have hc := hc88
                exact absurd (mxK_le (hr1 hc)) ((hCh p (by omega)).order i (q + (i + 1)) (by omega) hj)
              · have hc := hc88
                replace F := F.setb (k := 80) (b' := false) rfl (decide_eq_false hc)
                clear hc
                refine c_false F rfl ?_
                refine wp_skip ?_
                refine H72 _ _ ?_
                refine c_region ?_
                refine stp F (f_add (r := ((q + 1 : Nat) : Int)) rfl rfl (by rw [IntKind.wrap_i64]; omega)) rfl rfl rfl (fun ac F => ?_)
                refine stp F (f_move rfl) rfl rfl rfl (fun ac F => ?_)
                refine stpEnd ?_
                refine ⟨(R (5 + p)).vs.length - (i + 1) - (q + 1), ?_, (q + 1), F.sub ⟨rfl, rfl, rfl, rfl, rfl, rfl, rfl, rfl, rfl, rfl, trivial⟩, kp0, hR, hb55, by omega, rfl⟩
                omega
            · have hc := hc70
              replace F := F.setb (k := 72) (b' := false) rfl (decide_eq_false hc)
              clear hc
              refine c_false F rfl ?_
              refine wp_exit ?_
              refine H50 _ _ ?_
              refine c_region ?_
              refine stp F (f_add (r := ((i + 1 : Nat) : Int)) rfl rfl (by rw [IntKind.wrap_i64]; omega)) rfl rfl rfl (fun ac F => ?_)
              refine stp F (f_move rfl) rfl rfl rfl (fun ac F => ?_)
              refine stpEnd ?_
              refine ⟨(R (5 + p)).vs.length - (i + 1), ?_, (i + 1), F.sub ⟨rfl, rfl, rfl, rfl, rfl, rfl, trivial⟩, kp0, hR, by omega, rfl⟩
              omega
        · have hc := hc48
          replace F := F.setb (k := 62) (b' := false) rfl (decide_eq_false hc)
          clear hc
          refine c_false F rfl ?_
          refine wp_exit ?_
          refine H37 _ _ ?_
          refine c_region ?_
          refine stp F (f_add (r := ((p + 1 : Nat) : Int)) rfl rfl (by rw [IntKind.wrap_i64]; omega)) rfl rfl rfl (fun ac F => ?_)
          refine stp F (f_move rfl) rfl rfl rfl (fun ac F => ?_)
          refine stpEnd ?_
          refine ⟨4 - (p + 1), ?_, (p + 1), F.sub ⟨rfl, rfl, trivial⟩, kp0, hR, by omega, rfl⟩
          omega
    · have hc := hc35
      replace F := F.setb (k := 57) (b' := false) rfl (decide_eq_false hc)
      clear hc
      refine c_false F rfl ?_
      refine wp_exit ?_
      refine H26 _ _ ?_
      refine c_seq (fun K89 H90 => ?_)
      refine c_region ?_
      refine stp F (f_assign rfl) rfl rfl rfl (fun ac F => ?_)
      refine stpEnd ?_
      refine H90 _ _ ?_
      refine wp_ret ?_
      refine ret1 F rfl rfl ?_
      exact ⟨rfl, kp0⟩

end Go.Proofs.YtkbngaollbmcbaaDoor.KK

namespace Go.Proofs.YtkbngaollbmcbaaDoor.KK
open Go Go.RowKit
open Go.ChangeShapes Go.WideShapes Go.ChangeAt Go.Deep
open Go.Proofs.YtkbngaollbmcbaaDoor

section
variable {H : Type} {enc : TypeId × Value → H} {P : Program} {w : World} {base : Nat} {spare : Nat → Bool} {held : Bool}
theorem pick_list {α : Type} [Inhabited α] {q : Nat → α → Prop} (n : Nat) (h : ∀ i, i < n → ∃ x, q i x) : ∃ l : List α, l.length = n ∧ ∀ i, i < n → q i (l.getD i default) := by
  refine ⟨(List.range n).map fun i => if h' : i < n then Classical.choose (h i h') else default, by simp, fun i hi => ?_⟩
  have := Classical.choose_spec (h i hi)
  simpa [hi] using this
theorem wf_i64 {z : Int} (h : (Lit.int .i64 z).wf = true) : i64 z := by
  simp only [Lit.wf, Bool.and_eq_true, decide_eq_true_eq] at h
  exact h
/-- A slice of posts that came in. -/
theorem open_posts {t e : TypeId} {f0 f1 f2 : Field} {fuel : Nat} {cs : List Value} {x : DataW H × List MemPlace} (ht : P.underlying t = some (.slice e)) (he : P.underlying e = some (.struct #[f0, f1, f2]))
    (hone : oneCellFields P #[f0, f1, f2] = true) (hC : P.cellsOf e = 3) (h0 : P.underlying f0.type = some (.int .i64)) (h1 : P.underlying f1.type = some (.int .i64)) (h2 : P.underlying f2.type = some (.int .i64)) (h : DataW.trod enc P w base spare held fuel t cs = some x) :
    ∃ (A : Option Addr) (c : Nat) (l : List Pst), cs = [.slice A l.length c] ∧ Sl w 0 w.heap.size 3 A l.length c (fun i => psV (l.getD i default)) ∧ (∀ x ∈ l, x.ok) ∧ l.length ≤ 9223372036854775807 := by
  rcases open_slice ht h with ⟨rfl, _⟩ | ⟨a, len, cap, m, n, D, Pl, rfl, hb, hl, hm, hmm, _, hi⟩
  · exact ⟨none, 0, [], rfl, Sl.nil _ _ _ _ _, by simp, by simp⟩
  · have key : ∀ i, i < len → ∃ e : Pst, RdAt w (a.add (i * 3)) 3 (psV e) ∧ e.ok := fun i hil => by
      have him : i < m := by rw [hmm]; split <;> omega
      obtain ⟨cs', hc, ht'⟩ := hi i him
      rw [hC] at hc
      obtain ⟨_, hlen, hcell⟩ := World.cells?_some hc
      obtain ⟨ys, k, _, _, _, hys, hf⟩ := DataW.trod_struct he ht'
      obtain ⟨c0, c1, c2, rfl⟩ : ∃ c0 c1 c2, cs' = [c0, c1, c2] := by
        match cs', hlen with
        | [c0, c1, c2], _ => exact ⟨c0, c1, c2, rfl⟩
      have g : ∀ (j : Nat) (f : Field) (c : Value), #[f0, f1, f2][j]? = some f → ([c0, c1, c2].drop j).take 1 = [c] → P.underlying f.type = some (.int .i64) → ∃ z, c = .int .i64 z ∧ i64 z := fun j f c hj hd hu => by
        obtain ⟨ho, hk⟩ := hone_of hone j f hj
        have h3 := hf j f hj
        rw [ho, hk, hd] at h3
        have hlt : j < ys.length := by rw [hys]; exact (Array.getElem?_eq_some_iff.1 hj).1
        rw [List.getElem?_eq_getElem hlt] at h3
        obtain ⟨z, hz, _, hw⟩ := DataW.trod_int hu h3
        simp at hz
        exact ⟨z, hz, wf_i64 hw⟩
      obtain ⟨z0, rfl, b0⟩ := g 0 f0 c0 rfl rfl h0
      obtain ⟨z1, rfl, b1⟩ := g 1 f1 c1 rfl rfl h1
      obtain ⟨z2, rfl, b2⟩ := g 2 f2 c2 rfl rfl h2
      refine ⟨⟨z0, z1, z2⟩, ⟨rfl, fun j u hu => ?_⟩, b0, b1, b2⟩
      have hu' : [Value.int .i64 z0, .int .i64 z1, .int .i64 z2][j]? = some u := by
        have : (#[Value.int .i64 z0, .int .i64 z1, .int .i64 z2] : Array Value)[j]? = some u := hu
        simpa using this
      have hj : j < 3 := (List.getElem?_eq_some_iff.1 hu').1
      rw [hcell j hj]; exact hu'
    obtain ⟨l, hll, hrd⟩ := pick_list len key
    refine ⟨some a, cap, l, by rw [hll], ⟨by omega, fun hp => ?_, fun i hi' => by rw [hll] at hi'; exact (hrd i hi').1⟩, fun x hx => ?_, by rw [hll]; unfold maxLen at hm; omega⟩
    · rw [hll] at hp
      refine ⟨rfl, Nat.zero_le _, ?_⟩
      have := (hrd 0 hp).1.2 0 (.int .i64 (l.getD 0 default).kind) rfl
      have hlt := World.block_lt_of_cell? w _ this
      rwa [KK.add_block, KK.add_block] at hlt
    · obtain ⟨i, hi2, rfl⟩ := List.mem_iff_getElem.1 hx
      have := (hrd i (by omega)).2
      simpa [hi2] using this
end
theorem own1 : ownKnob Tryd.prog.godebug = none := by kernel_rfl
theorem laidOut1 : laidOutB Tryd.prog = true := by kernel_rfl
/-- What the rows list. -/
abbrev laid3 : List (String × DataW Unit) := [("math/bits.deBruijn32tab", Rows.laid_math_bits_deBruijn32tab), ("math/bits.deBruijn64tab", Rows.laid_math_bits_deBruijn64tab), ("internal/strconv.uint64pow10", Rows.laid_internal_strconv_uint64pow10)]
theorem door_met (os : Os) (args : Array Value) : laidMetH Tryd.prog laid3 ((World.doorLaid Tryd.prog 400 os).forCall (fun _ _ => 0) ⟨#[], args, []⟩).memory :=
  laidMetH_of_parts3 (fuel := 8) (laidMet_of_run' 8 (by kernel_rfl) (by kernel_rfl)) (by kernel_rfl) (by kernel_rfl)
theorem tab_of_laid {W : World} (h : laidMetH Tryd.prog laid3 W) : Tab Tryd.prog W := by
  rw [MakeChecks.laidMetH_plain _ _ _ (by kernel_rfl)] at h
  obtain ⟨ps, ⟨g0, t0, cs0, f0, p0, q0, hg0, ht0, hv0, hd0, ⟨g1, t1, cs1, f1, p1, q1, hg1, ht1, hv1, hd1, ⟨g2, t2, cs2, f2, p2, q2, hg2, ht2, hv2, hd2, _, _⟩, _⟩, _⟩, _, _⟩ := h
  obtain rfl := Option.some.inj ((show Tryd.prog.globalNamed "internal/strconv.uint64pow10" = some 0 by kernel_rfl).symm.trans hg2)
  obtain rfl := Option.some.inj ((show (Tryd.prog.globals[0]?).map (·.type) = some 79 by kernel_rfl).symm.trans ht2)
  show W.var? _ _ = _
  rw [hv2]
  have := Lib.cells_of_tab (k := .u64) (zs := Lib.pow10Tab) (n := 20) (e := 71) Tryd.underlying79 Tryd.underlying71 (by kernel_rfl) (by kernel_rfl) hd2
  rw [← this]

end Go.Proofs.YtkbngaollbmcbaaDoor.KK

namespace Go.Proofs.YtkbngaollbmcbaaDoor.KK
open Go Go.RowKit
open Go.ChangeShapes Go.WideShapes Go.ChangeAt Go.Deep
open Go.Proofs.YtkbngaollbmcbaaDoor

set_option maxRecDepth 100000 in
theorem orderLifted (os : Os) (started : os.Started) (H : Type) (enc : TypeId × Value → H) :
    ReturnsInHanded {} Tryd.checked os 5 .any (fun w args => (Rows.causalOrderSpec.pre enc Tryd.prog Tryd.f5 [] false w args ∧ laidMetH Tryd.prog laid3 w) ∧ sizedMet enc Tryd.prog Tryd.f5 (OpenSpec.ofChange Rows.causalOrderSpec) false w args)
      (Rows.causalOrderSpec.post enc Tryd.prog Tryd.f5 false true false false) := by
  refine returnsInHanded_of_change_and (C := Tryd.checked) (X := fun w _ => laidMetH Tryd.prog laid3 w) (fun _ _ _ hh h => h.of_heap hh) own1 started (by kernel_rfl) Tryd.func5
    (ChangeSpec.witness_shaped (enc := enc) (C := Tryd.checked) (os := os) (X := fun w _ => laidMetH Tryd.prog laid3 w) false (World.doorLaid Tryd.prog 400 os) #[.slice none 0 0] 8 rfl (World.shaped_of_RefB (by kernel_rfl) (by kernel_rfl)) (by kernel_rfl) (by kernel_rfl) (by kernel_rfl) (door_met os _)) ?_
  intro W base args ds gs before hval0 hW _ _ hL _
  have hval : ∀ (j : Nat) t v, Tryd.f5.params[j]? = some t → args[j]? = some v → Value.okWide Tryd.prog W .any base t v := hval0
  have hW' := hW
  obtain ⟨p, q, hA0, hV, rfl, hfz, hnd⟩ := hW
  have hA : DataW.TrodAll enc Tryd.prog W 0 (fun _ => true) true Tryd.f5.params.toList args.toList ds p := hA0
  rw [Tryd.params5] at hA hval
  obtain ⟨v0, vs0, d0, ds0, p0, q0, hargs, rfl, rfl, h0, r0⟩ := trodAll_cons hA
  obtain ⟨rfl, rfl, rfl⟩ := trodAll_nil r0
  obtain rfl : args = #[v0] := by cases args; simp_all
  obtain ⟨rfl, rfl⟩ := trodVars_none hV
  obtain ⟨a0, len0, cap0, rfl⟩ := okWide_slice Tryd.underlying22 (hval 0 22 v0 rfl rfl)
  have k0 := h0
  have lt0 : ∀ x ∈ p0, x.block < W.heap.size := by obtain ⟨m, hm⟩ := k0; exact DataW.trod_lt m _ _ _ hm
  obtain ⟨fuel, hf⟩ := h0
  obtain ⟨A, c, l, hcs, hsl, hok, hlen⟩ := open_posts Tryd.underlying22 Tryd.underlying27 (by kernel_rfl) (by kernel_rfl) Tryd.underlying3 Tryd.underlying3 Tryd.underlying3 hf
  simp [Value.cells] at hcs
  obtain ⟨rfl, rfl, rfl⟩ := hcs
  clear hA0 hval0
  refine (order_c a0 cap0 l W hsl hok hlen (tab_of_laid hL)).mono fun e W' he => ?_
  cases e with
  | panicked c => exact he.elim
  | outgrown => exact he.elim
  | returned v =>
    obtain ⟨rfl, kp⟩ := he
    have bel := kp.below
    exact ⟨_, rfl, _, _, _, [], _, [], hW', trodAll_mk1 (shut_bool Tryd.underlying4 _), (trodAll_cons_mk (Below.trod laidOut1 (by kernel_rfl) (of_decide_eq_true (by kernel_rfl)) k0 bel lt0) trodAll_mk0), rfl, bel.frame _, fun h => by cases h⟩

theorem order_row : Rows.CausalOrderSaid :=
  OpenClaim.holds_of_wide 5 Tryd.f5 rfl rfl rfl rfl rfl rfl rfl ⟨rfl, rfl, rfl, rfl, rfl⟩ rfl rfl rfl rfl rfl (by kernel_rfl) Tryd.func5 (by kernel_rfl)
    (of_decide_eq_true (by kernel_rfl)) (by unfold Func.isWrapper; first | (rw [if_pos (by decide +kernel)]; kernel_rfl) | (rw [if_neg (by decide +kernel)]; exact ⟨rfl, rfl⟩))
    (fun os started H enc _ => orderLifted os started H enc)
theorem causalOrder_holds : Rows.CausalOrderCardSaid :=
  Claim7.holds_tied_plain_at .later [] [.data, .data, .data] true (true, "14b0026c41719434ed4ac978c33fc0fc6010f237949abf9a9ad0e60fd5291d1c") false
    order_row (fun _ h => by cases h) (by kernel_rfl) (fun _ h => by cases h) causalOrder_row_tie rfl ⟨rfl, rfl⟩ (by kernel_rfl) rfl
    (fun f fn hf hfn => by
      obtain rfl : f = 5 := Option.some.inj ((show Tryd.prog.funcNamed "partsong/partkeep.CausalOrder" = some 5 by kernel_rfl).symm.trans hf) |>.symm
      obtain rfl : fn = Tryd.f5 := (Option.some.inj (Tryd.func5.symm.trans hfn)).symm
      exact ⟨by kernel_rfl, fun j t ht => by
        rw [Tryd.params5] at ht
        have hm : t ∈ [22] := by simpa using Array.mem_of_getElem? ht
        have hall : ([22].all fun u => !Tryd.prog.wantsStandIn u) = true := by kernel_rfl
        exact (show Tryd.prog.wantsStandIn t = false by simpa using List.all_eq_true.1 hall t hm)⟩)
    (by kernel_rfl)
end Go.Proofs.YtkbngaollbmcbaaDoor.KK
