/- What the proof leans on: rules for a walk through the code, walks of functions, and plain laws. No condition. -/
import Derived.Test.YtkbngaollbmcbaaDoorKc
import Derived.Test.YtkbngaollbmcbaaDoorProg
import Derived.Test.YtkbngaollbmcbaaDoorKb

namespace Go.Proofs.YtkbngaollbmcbaaDoor.KK
open Go Go.RowKit

set_option maxHeartbeats 4000000 in
theorem in_c (x lo hi : Int) (w0 : World) : Calls Tryd.prog 30 #[.int .i64 x, .int .i64 lo, .int .i64 hi] w0 (Ret fun v w' => v = .bool (decide (lo ≤ x ∧ x ≤ hi)) ∧ Kp [] w0 w') := by
  refine enter (n := 15) Tryd.func30 rfl rfl rfl (fun ac F => ?_)
  have kp0 := Kp.refl ([] : List Nat) w0
  refine c_seq (fun K1 H2 => ?_)
  refine c_region ?_
  refine stp F (f_assign rfl) rfl rfl rfl (fun ac F => ?_)
  refine stpEnd ?_
  refine H2 _ _ ?_
  refine c_seq (fun K3 H4 => ?_)
  refine c_region ?_
  refine stp F (f_move rfl) rfl rfl rfl (fun ac F => ?_)
  refine stp F (f_move rfl) rfl rfl rfl (fun ac F => ?_)
  refine stp F (f_geq rfl rfl) rfl rfl rfl (fun ac F => ?_)
  refine stp F (f_move rfl) rfl rfl rfl (fun ac F => ?_)
  by_cases hc5 : lo ≤ x
  · have hc := hc5
    replace F := F.setb (k := 9) (b' := true) rfl (decide_eq_true hc)
    replace F := F.setb (k := 10) (b' := true) rfl (decide_eq_true hc)
    clear hc
    refine stp F (f_move rfl) rfl rfl rfl (fun ac F => ?_)
    refine stp F (f_move rfl) rfl rfl rfl (fun ac F => ?_)
    refine stp F (f_leq rfl rfl) rfl rfl rfl (fun ac F => ?_)
    refine stp F (f_pickT rfl rfl) rfl rfl rfl (fun ac F => ?_)
    refine stp F (f_assign rfl) rfl rfl rfl (fun ac F => ?_)
    refine stpEnd ?_
    refine H4 _ _ ?_
    refine wp_ret ?_
    refine ret1 F rfl rfl ?_
    exact ⟨by simp [hc5], kp0⟩
  · have hc := hc5
    replace F := F.setb (k := 9) (b' := false) rfl (decide_eq_false hc)
    replace F := F.setb (k := 10) (b' := false) rfl (decide_eq_false hc)
    clear hc
    refine stpN F rfl rfl rfl (fun ac F => ?_)
    refine stpN F rfl rfl rfl (fun ac F => ?_)
    refine stpN F rfl rfl rfl (fun ac F => ?_)
    refine stp F (f_pickF rfl rfl) rfl rfl rfl (fun ac F => ?_)
    refine stp F (f_assign rfl) rfl rfl rfl (fun ac F => ?_)
    refine stpEnd ?_
    refine H4 _ _ ?_
    refine wp_ret ?_
    refine ret1 F rfl rfl ?_
    exact ⟨by simp [hc5], kp0⟩

set_option maxHeartbeats 4000000 in
theorem rdy_c (s : Nat → Int) (m : Ml) (w0 : World) (hs : ∀ i, i < 6 → 0 ≤ s i ∧ s i ≤ 16777215) : Calls Tryd.prog 23 #[.agg #[.int .i64 (s 0), .int .i64 (s 1), .int .i64 (s 2), .int .i64 (s 3), .int .i64 (s 4), .int .i64 (s 5)], .agg #[.int .i64 m.f, .int .i64 (m.a 0), .int .i64 (m.a 1), .int .i64 (m.a 2), .int .i64 (m.a 3), .int .i64 (m.a 4), .int .i64 (m.a 5), .string m.t]] w0 (Ret fun v w' => ∃ b : Bool, v = .bool b ∧ (b = true ↔ Rdy s m) ∧ Kp [] w0 w') := by
  refine enter (n := 39) Tryd.func23 rfl rfl rfl (fun ac F => ?_)
  have kp0 := Kp.refl ([] : List Nat) w0
  refine c_seq (fun K1 H2 => ?_)
  refine c_region ?_
  refine stpE F (f_box (cs := [.int .i64 (s 0), .int .i64 (s 1), .int .i64 (s 2), .int .i64 (s 3), .int .i64 (s 4), .int .i64 (s 5)]) rfl rfl) rfl rfl rfl ?_
  rintro _ w4 ac ⟨g3, rfl, nb6⟩ F
  have n7 := nb6.num
  have z8 := nb6.size
  have hsz := (nb6.kp).size
  replace kp0 := kp0.trans (nb6.kp) (by simp)
  have hb5 : Blk w4 g3 30 ([.int .i64 (s 0), .int .i64 (s 1), .int .i64 (s 2), .int .i64 (s 3), .int .i64 (s 4), .int .i64 (s 5)]) := nb6.blk
  refine stpE F (f_box (cs := [.int .i64 m.f, .int .i64 (m.a 0), .int .i64 (m.a 1), .int .i64 (m.a 2), .int .i64 (m.a 3), .int .i64 (m.a 4), .int .i64 (m.a 5), .string m.t]) rfl rfl) rfl rfl rfl ?_
  rintro _ w10 ac ⟨g9, rfl, nb12⟩ F
  have n13 := nb12.num
  have z14 := nb12.size
  have hsz := (nb12.kp).size
  replace hb5 := hb5.keep (nb12.kp) (by simp)
  replace kp0 := kp0.trans (nb12.kp) (by simp)
  have hb11 : Blk w10 g9 38 ([.int .i64 m.f, .int .i64 (m.a 0), .int .i64 (m.a 1), .int .i64 (m.a 2), .int .i64 (m.a 3), .int .i64 (m.a 4), .int .i64 (m.a 5), .string m.t]) := nb12.blk
  refine stp F (f_assign rfl) rfl rfl rfl (fun ac F => ?_)
  refine stpEnd ?_
  refine H2 _ _ ?_
  refine c_seq (fun K15 H16 => ?_)
  refine c_seq (fun K17 H18 => ?_)
  refine c_region ?_
  refine stp F (f_fieldAddr (r := ⟨g9, 1, none⟩) (sz := 5) rfl Tryd.underlying38 rfl Tryd.sizeOf30 rfl) rfl rfl rfl (fun ac F => ?_)
  refine stp F (f_loadN (vs := #[.int .i64 (m.a 0), .int .i64 (m.a 1), .int .i64 (m.a 2), .int .i64 (m.a 3), .int .i64 (m.a 4), .int .i64 (m.a 5)]) rfl Tryd.isAgg30 Tryd.sizeOf30 (hb11.rd (o := 1) rfl (by intro j u hu; exact part_at (ps := [.int .i64 (m.a 0), .int .i64 (m.a 1), .int .i64 (m.a 2), .int .i64 (m.a 3), .int .i64 (m.a 4), .int .i64 (m.a 5)]) (by rfl) (by simpa [Value.cells] using hu)))) rfl rfl rfl (fun ac F => ?_)
  refine stp F (f_move rfl) rfl rfl rfl (fun ac F => ?_)
  refine stpEnd ?_
  refine H18 _ _ ?_
  refine wp_block ?_
  refine c_loop (fun mx ax wx => ∃ (k : Nat), Fr ax 39 [(0, .agg #[.int .i64 (s 0), .int .i64 (s 1), .int .i64 (s 2), .int .i64 (s 3), .int .i64 (s 4), .int .i64 (s 5)]), (2, .pointer (some ⟨g3, 0, none⟩)), (3, .pointer (some ⟨g9, 0, none⟩)), (8, .agg #[.int .i64 (m.a 0), .int .i64 (m.a 1), .int .i64 (m.a 2), .int .i64 (m.a 3), .int .i64 (m.a 4), .int .i64 (m.a 5)]), (9, .int .i64 (k : Int))] ∧ Kp [] w0 wx ∧ Blk wx g3 30 ([.int .i64 (s 0), .int .i64 (s 1), .int .i64 (s 2), .int .i64 (s 3), .int .i64 (s 4), .int .i64 (s 5)]) ∧ Blk wx g9 38 ([.int .i64 m.f, .int .i64 (m.a 0), .int .i64 (m.a 1), .int .i64 (m.a 2), .int .i64 (m.a 3), .int .i64 (m.a 4), .int .i64 (m.a 5), .string m.t]) ∧ (k ≤ 6) ∧ (∀ i, i < k → Rdy1 s m i) ∧ mx = 6 - k) (6 - 0) ?_ ?_
  · exact ⟨0, F.sub ⟨rfl, rfl, rfl, rfl, rfl, trivial⟩, kp0, hb5, hb11, by omega, fun i hi => by omega, rfl⟩
  · clear F kp0 hb5 hb11
    rintro m20 ac wl19 ⟨k, F, kp0, hb5, hb11, hk, hup, hm⟩
    have hsz := kp0.size
    have lt_hb5 := hb5.lt
    have lt_hb11 := hb11.lt
    refine c_seq (fun K21 H22 => ?_)
    refine c_region ?_
    refine stp F (f_lss rfl rfl) rfl rfl rfl (fun ac F => ?_)
    refine stpEnd ?_
    refine H22 _ _ ?_
    refine c_seq (fun K23 H24 => ?_)
    by_cases hc25 : (k : Int) < 6
    · have hc := hc25
      replace F := F.setb (k := 10) (b' := true) rfl (decide_eq_true hc)
      clear hc
      refine c_true F rfl ?_
      refine wp_skip ?_
      refine H24 _ _ ?_
      refine c_seq (fun K26 H27 => ?_)
      refine wp_block ?_
      refine c_seq (fun K28 H29 => ?_)
      refine c_region ?_
      refine stp F (f_move rfl) rfl rfl rfl (fun ac F => ?_)
      refine stp F (f_index1 (cs := [.int .i64 (m.a 0), .int .i64 (m.a 1), .int .i64 (m.a 2), .int .i64 (m.a 3), .int .i64 (m.a 4), .int .i64 (m.a 5)]) (v := .int .i64 (m.a k)) rfl rfl Tryd.underlying30 Tryd.isAgg3 Tryd.sizeOf3 (by omega) (by omega) (six (o := 0) (f := fun i_ => .int .i64 (m.a i_)) rfl rfl rfl rfl rfl rfl (j := k) (by omega) (by omega))) rfl rfl rfl (fun ac F => ?_)
      refine stp F (f_assign rfl) rfl rfl rfl (fun ac F => ?_)
      refine stp F (f_assign rfl) rfl rfl rfl (fun ac F => ?_)
      refine stpEnd ?_
      refine H29 _ _ ?_
      refine c_seq (fun K30 H31 => ?_)
      have hsk := hs k (by omega)
      refine c_region ?_
      refine stp F (f_move rfl) rfl rfl rfl (fun ac F => ?_)
      refine stp F (f_fieldAddr (r := ⟨g9, 0, none⟩) (sz := 0) rfl Tryd.underlying38 rfl Tryd.sizeOf3 rfl) rfl rfl rfl (fun ac F => ?_)
      refine stp F (f_load1 (v := .int .i64 m.f) rfl Tryd.isAgg3 ((hb11.cell 0).trans rfl)) rfl rfl rfl (fun ac F => ?_)
      refine stp F (f_eql rfl rfl) rfl rfl rfl (fun ac F => ?_)
      refine stp F (f_move rfl) rfl rfl rfl (fun ac F => ?_)
      by_cases hc32 : (k : Int) = m.f
      · have hc := hc32
        replace F := F.setb (k := 16) (b' := true) rfl (decide_eq_true hc)
        replace F := F.setb (k := 17) (b' := true) rfl (decide_eq_true hc)
        clear hc
        refine stp F (f_move rfl) rfl rfl rfl (fun ac F => ?_)
        refine stp F (f_move rfl) rfl rfl rfl (fun ac F => ?_)
        refine stp F (f_indexA (r := ⟨g3, k * 1, none⟩) rfl rfl Tryd.underlying30 Tryd.sizeOf3 (by omega) (by omega) (add_eq (by omega))) rfl rfl rfl (fun ac F => ?_)
        refine stp F (f_load1 (v := .int .i64 (s k)) rfl Tryd.isAgg3 ((hb5.cell _).trans (six (o := 0) (q := k * 1) (f := fun i_ => .int .i64 (s i_)) rfl rfl rfl rfl rfl rfl (j := k) (by omega) (by omega)))) rfl rfl rfl (fun ac F => ?_)
        refine stp F (f_add (r := (s k) + 1) rfl rfl (by rw [IntKind.wrap_i64]; omega)) rfl rfl rfl (fun ac F => ?_)
        refine stp F (f_neq rfl rfl) rfl rfl rfl (fun ac F => ?_)
        refine stp F (f_pickT rfl rfl) rfl rfl rfl (fun ac F => ?_)
        refine stp F (f_move rfl) rfl rfl rfl (fun ac F => ?_)
        by_cases hc33 : m.a k = (s k) + 1
        · have hc := hc33
          replace F := F.setb (k := 23) (b' := false) rfl (nt (decide_eq_true hc))
          replace F := F.setb (k := 24) (b' := false) rfl (nt (decide_eq_true hc))
          replace F := F.setb (k := 25) (b' := false) rfl (nt (decide_eq_true hc))
          clear hc
          refine stp F (f_move rfl) rfl rfl rfl (fun ac F => ?_)
          refine stp F (f_fieldAddr (r := ⟨g9, 0, none⟩) (sz := 0) rfl Tryd.underlying38 rfl Tryd.sizeOf3 rfl) rfl rfl rfl (fun ac F => ?_)
          refine stp F (f_load1 (v := .int .i64 m.f) rfl Tryd.isAgg3 ((hb11.cell 0).trans rfl)) rfl rfl rfl (fun ac F => ?_)
          refine stp F (f_neq rfl rfl) rfl rfl rfl (fun ac F => ?_)
          replace F := F.setb (k := 29) (b' := false) rfl (nt (decide_eq_true hc32))
          refine stp F (f_move rfl) rfl rfl rfl (fun ac F => ?_)
          refine stpN F rfl rfl rfl (fun ac F => ?_)
          refine stpN F rfl rfl rfl (fun ac F => ?_)
          refine stpN F rfl rfl rfl (fun ac F => ?_)
          refine stpN F rfl rfl rfl (fun ac F => ?_)
          refine stpN F rfl rfl rfl (fun ac F => ?_)
          refine stp F (f_pickF rfl rfl) rfl rfl rfl (fun ac F => ?_)
          refine stp F (f_pickF rfl rfl) rfl rfl rfl (fun ac F => ?_)
          refine stpEnd ?_
          refine H31 _ _ ?_
          refine c_false F rfl ?_
          refine wp_skip ?_
          refine H27 _ _ ?_
          refine c_region ?_
          refine stp F (f_add (r := ((k + 1 : Nat) : Int)) rfl rfl (by rw [IntKind.wrap_i64]; omega)) rfl rfl rfl (fun ac F => ?_)
          refine stp F (f_move rfl) rfl rfl rfl (fun ac F => ?_)
          refine stpEnd ?_
          refine ⟨6 - (k + 1), ?_, (k + 1), F.sub ⟨rfl, rfl, rfl, rfl, rfl, trivial⟩, kp0, hb5, hb11, by omega, upto_next hup ⟨fun e => (by first | assumption | exact absurd e (by assumption)), fun e => (by first | exact absurd (by assumption) e | omega)⟩, rfl⟩
          omega
        · have hc := hc33
          replace F := F.setb (k := 23) (b' := true) rfl (nf (decide_eq_false hc))
          replace F := F.setb (k := 24) (b' := true) rfl (nf (decide_eq_false hc))
          replace F := F.setb (k := 25) (b' := true) rfl (nf (decide_eq_false hc))
          clear hc
          refine stpN F rfl rfl rfl (fun ac F => ?_)
          refine stpN F rfl rfl rfl (fun ac F => ?_)
          refine stpN F rfl rfl rfl (fun ac F => ?_)
          refine stpN F rfl rfl rfl (fun ac F => ?_)
          refine stpN F rfl rfl rfl (fun ac F => ?_)
          refine stpN F rfl rfl rfl (fun ac F => ?_)
          refine stpN F rfl rfl rfl (fun ac F => ?_)
          refine stpN F rfl rfl rfl (fun ac F => ?_)
          refine stpN F rfl rfl rfl (fun ac F => ?_)
          refine stpN F rfl rfl rfl (fun ac F => ?_)
          refine stpN F rfl rfl rfl (fun ac F => ?_)
          refine stp F (f_pickT rfl rfl) rfl rfl rfl (fun ac F => ?_)
          refine stpEnd ?_
          refine H31 _ _ ?_
          refine c_true F rfl ?_
          refine c_seq (fun K34 H35 => ?_)
          refine c_region ?_
          refine stp F (f_assign rfl) rfl rfl rfl (fun ac F => ?_)
          refine stpEnd ?_
          refine H35 _ _ ?_
          refine wp_ret ?_
          refine ret1 F rfl rfl ?_
          exact ⟨false, rfl, ⟨fun h => (by cases h), fun h => (by have h1 := h k (by omega); first | exact absurd (h1.1 (by assumption)) (by assumption) | (have h2 := h1.2 (by assumption); omega))⟩, kp0⟩
      · have hc := hc32
        replace F := F.setb (k := 16) (b' := false) rfl (decide_eq_false hc)
        replace F := F.setb (k := 17) (b' := false) rfl (decide_eq_false hc)
        clear hc
        refine stpN F rfl rfl rfl (fun ac F => ?_)
        refine stpN F rfl rfl rfl (fun ac F => ?_)
        refine stpN F rfl rfl rfl (fun ac F => ?_)
        refine stpN F rfl rfl rfl (fun ac F => ?_)
        refine stpN F rfl rfl rfl (fun ac F => ?_)
        refine stpN F rfl rfl rfl (fun ac F => ?_)
        refine stp F (f_pickF rfl rfl) rfl rfl rfl (fun ac F => ?_)
        refine stp F (f_move rfl) rfl rfl rfl (fun ac F => ?_)
        refine stp F (f_move rfl) rfl rfl rfl (fun ac F => ?_)
        refine stp F (f_fieldAddr (r := ⟨g9, 0, none⟩) (sz := 0) rfl Tryd.underlying38 rfl Tryd.sizeOf3 rfl) rfl rfl rfl (fun ac F => ?_)
        refine stp F (f_load1 (v := .int .i64 m.f) rfl Tryd.isAgg3 ((hb11.cell 0).trans rfl)) rfl rfl rfl (fun ac F => ?_)
        refine stp F (f_neq rfl rfl) rfl rfl rfl (fun ac F => ?_)
        replace F := F.setb (k := 29) (b' := true) rfl (nf (decide_eq_false hc32))
        refine stp F (f_move rfl) rfl rfl rfl (fun ac F => ?_)
        refine stp F (f_move rfl) rfl rfl rfl (fun ac F => ?_)
        refine stp F (f_move rfl) rfl rfl rfl (fun ac F => ?_)
        refine stp F (f_indexA (r := ⟨g3, k * 1, none⟩) rfl rfl Tryd.underlying30 Tryd.sizeOf3 (by omega) (by omega) (add_eq (by omega))) rfl rfl rfl (fun ac F => ?_)
        refine stp F (f_load1 (v := .int .i64 (s k)) rfl Tryd.isAgg3 ((hb5.cell _).trans (six (o := 0) (q := k * 1) (f := fun i_ => .int .i64 (s i_)) rfl rfl rfl rfl rfl rfl (j := k) (by omega) (by omega)))) rfl rfl rfl (fun ac F => ?_)
        refine stp F (f_gtr rfl rfl) rfl rfl rfl (fun ac F => ?_)
        refine stp F (f_pickT rfl rfl) rfl rfl rfl (fun ac F => ?_)
        refine stp F (f_pickF rfl rfl) rfl rfl rfl (fun ac F => ?_)
        refine stpEnd ?_
        refine H31 _ _ ?_
        by_cases hc36 : s k < m.a k
        · have hc := hc36
          replace F := F.setb (k := 35) (b' := true) rfl (decide_eq_true hc)
          replace F := F.setb (k := 36) (b' := true) rfl (decide_eq_true hc)
          replace F := F.setb (k := 37) (b' := true) rfl (decide_eq_true hc)
          clear hc
          refine c_true F rfl ?_
          refine c_seq (fun K37 H38 => ?_)
          refine c_region ?_
          refine stp F (f_assign rfl) rfl rfl rfl (fun ac F => ?_)
          refine stpEnd ?_
          refine H38 _ _ ?_
          refine wp_ret ?_
          refine ret1 F rfl rfl ?_
          exact ⟨false, rfl, ⟨fun h => (by cases h), fun h => (by have h1 := h k (by omega); first | exact absurd (h1.1 (by assumption)) (by assumption) | (have h2 := h1.2 (by assumption); omega))⟩, kp0⟩
        · have hc := hc36
          replace F := F.setb (k := 35) (b' := false) rfl (decide_eq_false hc)
          replace F := F.setb (k := 36) (b' := false) rfl (decide_eq_false hc)
          replace F := F.setb (k := 37) (b' := false) rfl (decide_eq_false hc)
          clear hc
          refine c_false F rfl ?_
          refine wp_skip ?_
          refine H27 _ _ ?_
          refine c_region ?_
          refine stp F (f_add (r := ((k + 1 : Nat) : Int)) rfl rfl (by rw [IntKind.wrap_i64]; omega)) rfl rfl rfl (fun ac F => ?_)
          refine stp F (f_move rfl) rfl rfl rfl (fun ac F => ?_)
          refine stpEnd ?_
          refine ⟨6 - (k + 1), ?_, (k + 1), F.sub ⟨rfl, rfl, rfl, rfl, rfl, trivial⟩, kp0, hb5, hb11, by omega, upto_next hup ⟨fun e => (by first | assumption | exact absurd e (by assumption)), fun e => (by first | exact absurd (by assumption) e | omega)⟩, rfl⟩
          omega
    · have hc := hc25
      replace F := F.setb (k := 10) (b' := false) rfl (decide_eq_false hc)
      clear hc
      refine c_false F rfl ?_
      refine wp_exit ?_
      refine H16 _ _ ?_
      refine c_seq (fun K39 H40 => ?_)
      refine c_region ?_
      refine stp F (f_assign rfl) rfl rfl rfl (fun ac F => ?_)
      refine stpEnd ?_
      refine H40 _ _ ?_
      refine wp_ret ?_
      refine ret1 F rfl rfl ?_
      exact ⟨true, rfl, ⟨fun _ i hi => hup i (by omega), fun _ => rfl⟩, kp0⟩

set_option maxHeartbeats 4000000 in
theorem same_c (x y : Ml) (w0 : World) (hx : 0 ≤ x.f ∧ x.f ≤ 5) (hy : 0 ≤ y.f ∧ y.f ≤ 5) : Calls Tryd.prog 22 #[.agg #[.int .i64 x.f, .int .i64 (x.a 0), .int .i64 (x.a 1), .int .i64 (x.a 2), .int .i64 (x.a 3), .int .i64 (x.a 4), .int .i64 (x.a 5), .string x.t], .agg #[.int .i64 y.f, .int .i64 (y.a 0), .int .i64 (y.a 1), .int .i64 (y.a 2), .int .i64 (y.a 3), .int .i64 (y.a 4), .int .i64 (y.a 5), .string y.t]] w0 (Ret fun v w' => ∃ b : Bool, v = .bool b ∧ (b = true ↔ Same x y) ∧ Kp [] w0 w') := by
  refine enter (n := 23) Tryd.func22 rfl rfl rfl (fun ac F => ?_)
  have kp0 := Kp.refl ([] : List Nat) w0
  refine c_seq (fun K1 H2 => ?_)
  refine c_region ?_
  refine stpE F (f_box (cs := [.int .i64 x.f, .int .i64 (x.a 0), .int .i64 (x.a 1), .int .i64 (x.a 2), .int .i64 (x.a 3), .int .i64 (x.a 4), .int .i64 (x.a 5), .string x.t]) rfl rfl) rfl rfl rfl ?_
  rintro _ w4 ac ⟨g3, rfl, nb6⟩ F
  have n7 := nb6.num
  have z8 := nb6.size
  have hsz := (nb6.kp).size
  replace kp0 := kp0.trans (nb6.kp) (by simp)
  have hb5 : Blk w4 g3 38 ([.int .i64 x.f, .int .i64 (x.a 0), .int .i64 (x.a 1), .int .i64 (x.a 2), .int .i64 (x.a 3), .int .i64 (x.a 4), .int .i64 (x.a 5), .string x.t]) := nb6.blk
  refine stpE F (f_box (cs := [.int .i64 y.f, .int .i64 (y.a 0), .int .i64 (y.a 1), .int .i64 (y.a 2), .int .i64 (y.a 3), .int .i64 (y.a 4), .int .i64 (y.a 5), .string y.t]) rfl rfl) rfl rfl rfl ?_
  rintro _ w10 ac ⟨g9, rfl, nb12⟩ F
  have n13 := nb12.num
  have z14 := nb12.size
  have hsz := (nb12.kp).size
  replace hb5 := hb5.keep (nb12.kp) (by simp)
  replace kp0 := kp0.trans (nb12.kp) (by simp)
  have hb11 : Blk w10 g9 38 ([.int .i64 y.f, .int .i64 (y.a 0), .int .i64 (y.a 1), .int .i64 (y.a 2), .int .i64 (y.a 3), .int .i64 (y.a 4), .int .i64 (y.a 5), .string y.t]) := nb12.blk
  refine stp F (f_assign rfl) rfl rfl rfl (fun ac F => ?_)
  refine stpEnd ?_
  refine H2 _ _ ?_
  refine c_seq (fun K15 H16 => ?_)
  refine c_draw 19 (by rfl) (by decide +kernel) (fun wx => Kp [] w10 wx) (Kp.drew _) ?_
  refine tP F rfl (fun wq => f_fieldAddr (r := ⟨g3, 0, none⟩) (sz := 0) rfl Tryd.underlying38 rfl Tryd.sizeOf3 rfl) rfl rfl rfl (fun ac F => ?_)
  refine tQ F rfl (fun wq hq => f_load1 (v := .int .i64 x.f) rfl Tryd.isAgg3 (((hb5.keep hq (by simp)).cell 0).trans rfl)) rfl rfl rfl (fun ac F => ?_)
  refine tP F rfl (fun wq => f_fieldAddr (r := ⟨g9, 0, none⟩) (sz := 0) rfl Tryd.underlying38 rfl Tryd.sizeOf3 rfl) rfl rfl rfl (fun ac F => ?_)
  refine tQ F rfl (fun wq hq => f_load1 (v := .int .i64 y.f) rfl Tryd.isAgg3 (((hb11.keep hq (by simp)).cell 0).trans rfl)) rfl rfl rfl (fun ac F => ?_)
  refine tP F rfl (fun wq => f_eql rfl rfl) rfl rfl rfl (fun ac F => ?_)
  refine tP F rfl (fun wq => f_move rfl) rfl rfl rfl (fun ac F => ?_)
  by_cases hc17 : x.f = y.f
  · have hc := hc17
    replace F := F.setb (k := 9) (b' := true) rfl (decide_eq_true hc)
    replace F := F.setb (k := 10) (b' := true) rfl (decide_eq_true hc)
    clear hc
    refine tP F rfl (fun wq => f_fieldAddr (r := ⟨g3, 0, none⟩) (sz := 0) rfl Tryd.underlying38 rfl Tryd.sizeOf3 rfl) rfl rfl rfl (fun ac F => ?_)
    refine tQ F rfl (fun wq hq => f_load1 (v := .int .i64 x.f) rfl Tryd.isAgg3 (((hb5.keep hq (by simp)).cell 0).trans rfl)) rfl rfl rfl (fun ac F => ?_)
    refine tP F rfl (fun wq => f_fieldAddr (r := ⟨g3, 1, none⟩) (sz := 5) rfl Tryd.underlying38 rfl Tryd.sizeOf30 rfl) rfl rfl rfl (fun ac F => ?_)
    refine tP F rfl (fun wq => f_indexA (r := ⟨g3, 1 + x.f.toNat * 1, none⟩) rfl rfl Tryd.underlying30 Tryd.sizeOf3 (by omega) (by omega) (add_eq (by omega))) rfl rfl rfl (fun ac F => ?_)
    refine tQ F rfl (fun wq hq => f_load1 (v := .int .i64 (x.a x.f.toNat)) rfl Tryd.isAgg3 (((hb5.keep hq (by simp)).cell _).trans (six (o := 1) (q := 1 + x.f.toNat * 1) (f := fun i_ => .int .i64 (x.a i_)) rfl rfl rfl rfl rfl rfl (j := x.f.toNat) (by omega) (by omega)))) rfl rfl rfl (fun ac F => ?_)
    refine tP F rfl (fun wq => f_fieldAddr (r := ⟨g9, 0, none⟩) (sz := 0) rfl Tryd.underlying38 rfl Tryd.sizeOf3 rfl) rfl rfl rfl (fun ac F => ?_)
    refine tQ F rfl (fun wq hq => f_load1 (v := .int .i64 y.f) rfl Tryd.isAgg3 (((hb11.keep hq (by simp)).cell 0).trans rfl)) rfl rfl rfl (fun ac F => ?_)
    refine tP F rfl (fun wq => f_fieldAddr (r := ⟨g9, 1, none⟩) (sz := 5) rfl Tryd.underlying38 rfl Tryd.sizeOf30 rfl) rfl rfl rfl (fun ac F => ?_)
    refine tP F rfl (fun wq => f_indexA (r := ⟨g9, 1 + y.f.toNat * 1, none⟩) rfl rfl Tryd.underlying30 Tryd.sizeOf3 (by omega) (by omega) (add_eq (by omega))) rfl rfl rfl (fun ac F => ?_)
    refine tQ F rfl (fun wq hq => f_load1 (v := .int .i64 (y.a y.f.toNat)) rfl Tryd.isAgg3 (((hb11.keep hq (by simp)).cell _).trans (six (o := 1) (q := 1 + y.f.toNat * 1) (f := fun i_ => .int .i64 (y.a i_)) rfl rfl rfl rfl rfl rfl (j := y.f.toNat) (by omega) (by omega)))) rfl rfl rfl (fun ac F => ?_)
    refine tP F rfl (fun wq => f_eql rfl rfl) rfl rfl rfl (fun ac F => ?_)
    refine tP F rfl (fun wq => f_pickT rfl rfl) rfl rfl rfl (fun ac F => ?_)
    refine tP F rfl (fun wq => f_assign rfl) rfl rfl rfl (fun ac F => ?_)
    refine tEnd (fun w18 hq => ?_)
    have hsz := hq.size
    replace hb5 := hb5.keep hq (by simp)
    replace hb11 := hb11.keep hq (by simp)
    replace kp0 := kp0.trans hq (by simp)
    refine H16 _ _ ?_
    refine wp_ret ?_
    refine ret1 F rfl rfl ?_
    exact ⟨_, rfl, by unfold Same; simp [hc17], kp0⟩
  · have hc := hc17
    replace F := F.setb (k := 9) (b' := false) rfl (decide_eq_false hc)
    replace F := F.setb (k := 10) (b' := false) rfl (decide_eq_false hc)
    clear hc
    refine tN F rfl rfl rfl (fun ac F => ?_)
    refine tN F rfl rfl rfl (fun ac F => ?_)
    refine tN F rfl rfl rfl (fun ac F => ?_)
    refine tN F rfl rfl rfl (fun ac F => ?_)
    refine tN F rfl rfl rfl (fun ac F => ?_)
    refine tN F rfl rfl rfl (fun ac F => ?_)
    refine tN F rfl rfl rfl (fun ac F => ?_)
    refine tN F rfl rfl rfl (fun ac F => ?_)
    refine tN F rfl rfl rfl (fun ac F => ?_)
    refine tN F rfl rfl rfl (fun ac F => ?_)
    refine tN F rfl rfl rfl (fun ac F => ?_)
    refine tP F rfl (fun wq => f_pickF rfl rfl) rfl rfl rfl (fun ac F => ?_)
    refine tP F rfl (fun wq => f_assign rfl) rfl rfl rfl (fun ac F => ?_)
    refine tEnd (fun w19 hq => ?_)
    have hsz := hq.size
    replace hb5 := hb5.keep hq (by simp)
    replace hb11 := hb11.keep hq (by simp)
    replace kp0 := kp0.trans hq (by simp)
    refine H16 _ _ ?_
    refine wp_ret ?_
    refine ret1 F rfl rfl ?_
    exact ⟨_, rfl, by unfold Same; simp [hc17], kp0⟩

set_option maxHeartbeats 4000000 in
theorem neg1_c (x : Int) (w0 : World) : Calls Tryd.prog 36 #[.int .i64 x] w0 (Ret fun v w' => v = .bool (decide (x < 0)) ∧ Kp [] w0 w') := by
  refine enter (n := 5) Tryd.func36 rfl rfl rfl (fun ac F => ?_)
  have kp0 := Kp.refl ([] : List Nat) w0
  refine c_seq (fun K1 H2 => ?_)
  refine c_region ?_
  refine stp F (f_assign rfl) rfl rfl rfl (fun ac F => ?_)
  refine stpEnd ?_
  refine H2 _ _ ?_
  refine c_seq (fun K3 H4 => ?_)
  refine c_region ?_
  refine stp F (f_move rfl) rfl rfl rfl (fun ac F => ?_)
  refine stp F (f_lss rfl rfl) rfl rfl rfl (fun ac F => ?_)
  refine stp F (f_assign rfl) rfl rfl rfl (fun ac F => ?_)
  refine stpEnd ?_
  refine H4 _ _ ?_
  refine wp_ret ?_
  refine ret1 F rfl rfl ?_
  exact ⟨rfl, kp0⟩

set_option maxHeartbeats 4000000 in
theorem neg2_c (x : Int) (w0 : World) : Calls Tryd.prog 32 #[.int .i64 x] w0 (Ret fun v w' => v = .bool (decide (x < 0)) ∧ Kp [] w0 w') := by
  refine enter (n := 5) Tryd.func32 rfl rfl rfl (fun ac F => ?_)
  have kp0 := Kp.refl ([] : List Nat) w0
  refine c_seq (fun K1 H2 => ?_)
  refine c_region ?_
  refine stp F (f_assign rfl) rfl rfl rfl (fun ac F => ?_)
  refine stpEnd ?_
  refine H2 _ _ ?_
  refine c_seq (fun K3 H4 => ?_)
  refine c_region ?_
  refine stp F (f_move rfl) rfl rfl rfl (fun ac F => ?_)
  refine stp F (f_lss rfl rfl) rfl rfl rfl (fun ac F => ?_)
  refine stp F (f_assign rfl) rfl rfl rfl (fun ac F => ?_)
  refine stpEnd ?_
  refine H4 _ _ ?_
  refine wp_ret ?_
  refine ret1 F rfl rfl ?_
  exact ⟨rfl, kp0⟩

set_option maxHeartbeats 4000000 in
theorem ixi_c (A : Option Addr) (n c fc lo hi : Nat) (cb : Array Value) (Q : Nat → Prop) (a : Nat → Int) (w0 : World) (hl : Sl w0 lo hi 1 A n c (fun i => .int .i64 (a i))) (hE : Ent Tryd.prog fc) (hC : ∀ (W : World) (i : Nat), Kp [] w0 W → i < n → Calls Tryd.prog fc (#[] ++ [.int .i64 (a i)].toArray ++ cb) W (Ret fun v w' => ∃ b : Bool, v = .bool b ∧ (b = true ↔ Q i) ∧ Kp [] W w')) (hn : n < 4611686018427387904) : Calls Tryd.prog 37 #[.slice A n c, .func (.func fc) #[] cb] w0 (Ret fun v w' => ∃ r : Int, v = .int .i64 r ∧ Kp [] w0 w' ∧ ((r = -1 ∧ ∀ i, i < n → ¬ Q i) ∨ ∃ k, k < n ∧ r = (k : Int) ∧ Q k ∧ ∀ i, i < k → ¬ Q i)) := by
  refine enter (n := 19) Tryd.func37 rfl rfl rfl (fun ac F => ?_)
  have kp0 := Kp.refl ([] : List Nat) w0
  refine c_seq (fun K1 H2 => ?_)
  refine c_region ?_
  refine stp F (f_assign rfl) rfl rfl rfl (fun ac F => ?_)
  refine stpEnd ?_
  refine H2 _ _ ?_
  refine c_seq (fun K3 H4 => ?_)
  refine c_seq (fun K5 H6 => ?_)
  refine c_region ?_
  refine stp F (f_move rfl) rfl rfl rfl (fun ac F => ?_)
  refine stp F (f_len rfl Tryd.underlying65) rfl rfl rfl (fun ac F => ?_)
  refine stp F (f_move rfl) rfl rfl rfl (fun ac F => ?_)
  refine stpEnd ?_
  refine H6 _ _ ?_
  refine wp_block ?_
  refine c_loop (fun mx ax wx => ∃ (k : Nat), Fr ax 19 [(0, .slice A n c), (1, .func (.func fc) #[] cb), (6, .slice A n c), (7, .int .i64 (n : Int)), (8, .int .i64 (k : Int))] ∧ Kp [] w0 wx ∧ Sl wx lo hi 1 A n c (fun i => .int .i64 (a i)) ∧ (k ≤ n) ∧ (∀ i, i < k → ¬ Q i) ∧ mx = n - k) (n - 0) ?_ ?_
  · exact ⟨0, F.sub ⟨rfl, rfl, rfl, rfl, rfl, trivial⟩, kp0, hl, by omega, fun i hi => by omega, rfl⟩
  · clear F kp0 hl
    rintro m8 ac wl7 ⟨k, F, kp0, hl, hk, hno, hm⟩
    have hsz := kp0.size
    refine c_seq (fun K9 H10 => ?_)
    refine c_region ?_
    refine stp F (f_lss rfl rfl) rfl rfl rfl (fun ac F => ?_)
    refine stpEnd ?_
    refine H10 _ _ ?_
    refine c_seq (fun K11 H12 => ?_)
    by_cases hc13 : (k : Int) < (n : Int)
    · have hc := hc13
      replace F := F.setb (k := 9) (b' := true) rfl (decide_eq_true hc)
      clear hc
      refine c_true F rfl ?_
      refine wp_skip ?_
      refine H12 _ _ ?_
      refine c_seq (fun K14 H15 => ?_)
      refine wp_block ?_
      refine c_seq (fun K16 H17 => ?_)
      refine c_region ?_
      refine stp F (f_move rfl) rfl rfl rfl (fun ac F => ?_)
      refine stp F (f_assign rfl) rfl rfl rfl (fun ac F => ?_)
      refine stpEnd ?_
      refine H17 _ _ ?_
      refine c_seq (fun K18 H19 => ?_)
      refine c_region ?_
      refine stp F (f_move rfl) rfl rfl rfl (fun ac F => ?_)
      refine stp F (f_move rfl) rfl rfl rfl (fun ac F => ?_)
      refine stp F (f_move rfl) rfl rfl rfl (fun ac F => ?_)
      refine stp F (f_indexS (r := ((adr A).add (k * 1))) rfl rfl Tryd.underlying65 Tryd.sizeOf3 (by omega) (by omega) (hl.some_ (by omega)).1 (by rw [show Int.toNat (k : Int) = k from by omega])) rfl rfl rfl (fun ac F => ?_)
      refine stp F (f_load1 (v := .int .i64 (a k)) rfl Tryd.isAgg3 (hl.cell1 (i := k) (by omega) rfl rfl)) rfl rfl rfl (fun ac F => ?_)
      refine stpC F (f_callV (vs := [.int .i64 (a k)]) rfl rfl hE) (hC _ k kp0 (by omega)) rfl rfl rfl ?_
      rintro _ w20 ac ⟨b, rfl, hb, kq21⟩ F
      have hsz := (kq21).size
      replace hl := hl.keep (kq21) (by simp)
      replace kp0 := kp0.trans (kq21) (by simp)
      refine stpEnd ?_
      refine H19 _ _ ?_
      by_cases hc22 : b = true
      · have hc := hc22
        replace F := F.setb (k := 16) (b' := true) rfl (hc)
        clear hc
        refine c_true F rfl ?_
        refine c_seq (fun K23 H24 => ?_)
        refine c_region ?_
        refine stp F (f_move rfl) rfl rfl rfl (fun ac F => ?_)
        refine stp F (f_assign rfl) rfl rfl rfl (fun ac F => ?_)
        refine stpEnd ?_
        refine H24 _ _ ?_
        refine wp_ret ?_
        refine ret1 F rfl rfl ?_
        exact ⟨_, rfl, kp0, .inr ⟨k, by omega, rfl, hb.1 hc22, hno⟩⟩
      · have hc := hc22
        replace F := F.setb (k := 16) (b' := false) rfl (Bool.eq_false_iff.2 hc)
        clear hc
        refine c_false F rfl ?_
        refine wp_skip ?_
        refine H15 _ _ ?_
        refine c_region ?_
        refine stp F (f_add (r := ((k + 1 : Nat) : Int)) rfl rfl (by rw [IntKind.wrap_i64]; omega)) rfl rfl rfl (fun ac F => ?_)
        refine stp F (f_move rfl) rfl rfl rfl (fun ac F => ?_)
        refine stpEnd ?_
        refine ⟨n - (k + 1), ?_, (k + 1), F.sub ⟨rfl, rfl, rfl, rfl, rfl, trivial⟩, kp0, hl, by omega, upto_next hno (fun hq => hc22 (hb.2 hq)), rfl⟩
        omega
    · have hc := hc13
      replace F := F.setb (k := 9) (b' := false) rfl (decide_eq_false hc)
      clear hc
      refine c_false F rfl ?_
      refine wp_exit ?_
      refine H4 _ _ ?_
      refine c_seq (fun K25 H26 => ?_)
      refine c_region ?_
      refine stp F (f_assign rfl) rfl rfl rfl (fun ac F => ?_)
      refine stpEnd ?_
      refine H26 _ _ ?_
      refine wp_ret ?_
      refine ret1 F rfl rfl ?_
      exact ⟨_, rfl, kp0, .inl ⟨rfl, fun i hi => hno i (by omega)⟩⟩

set_option maxHeartbeats 4000000 in
theorem ixib_c (A : Option Addr) (n c fc lo hi : Nat) (cb : Array Value) (Q : Nat → Prop) (a : Nat → Int) (w0 : World) (hl : Sl w0 lo hi 1 A n c (fun i => .int .i64 (a i))) (hE : Ent Tryd.prog fc) (hC : ∀ (W : World) (i : Nat), Kp [] w0 W → i < n → Calls Tryd.prog fc (#[] ++ [.int .i64 (a i)].toArray ++ cb) W (Ret fun v w' => ∃ b : Bool, v = .bool b ∧ (b = true ↔ Q i) ∧ Kp [] W w')) (hn : n < 4611686018427387904) : Calls Tryd.prog 31 #[.slice A n c, .func (.func fc) #[] cb] w0 (Ret fun v w' => ∃ b : Bool, v = .bool b ∧ (b = true ↔ ∃ i, i < n ∧ Q i) ∧ Kp [] w0 w') := by
  refine enter (n := 9) Tryd.func31 rfl rfl rfl (fun ac F => ?_)
  have kp0 := Kp.refl ([] : List Nat) w0
  refine c_seq (fun K1 H2 => ?_)
  refine c_region ?_
  refine stp F (f_assign rfl) rfl rfl rfl (fun ac F => ?_)
  refine stpEnd ?_
  refine H2 _ _ ?_
  refine c_seq (fun K3 H4 => ?_)
  refine c_region ?_
  refine stp F (f_move rfl) rfl rfl rfl (fun ac F => ?_)
  refine stp F (f_move rfl) rfl rfl rfl (fun ac F => ?_)
  refine stpC F (f_call (P := Tryd.prog) (f := 37) (vs := [.slice A n c, .func (.func fc) #[] cb]) rfl Tryd.call37) (ixi_c A n c fc lo hi cb Q a _ hl hE hC hn) rfl rfl rfl ?_
  rintro _ w5 ac ⟨r, rfl, kq6, hr⟩ F
  have hsz := (kq6).size
  replace hl := hl.keep (kq6) (by simp)
  replace kp0 := kp0.trans (kq6) (by simp)
  refine stp F (f_geq rfl rfl) rfl rfl rfl (fun ac F => ?_)
  refine stp F (f_assign rfl) rfl rfl rfl (fun ac F => ?_)
  refine stpEnd ?_
  refine H4 _ _ ?_
  refine wp_ret ?_
  refine ret1 F rfl rfl ?_
  exact ⟨_, rfl, ix_any hr, kp0⟩

set_option maxHeartbeats 4000000 in
theorem ixm_c (A : Option Addr) (n c fc lo hi : Nat) (cb : Array Value) (Q : Nat → Prop) (ms : List Ml) (w0 : World) (hl : Sl w0 lo hi 8 A n c (fun i => mlV (ms.getD i default))) (hE : Ent Tryd.prog fc) (hC : ∀ (W : World) (i : Nat), Kp [] w0 W → i < n → Calls Tryd.prog fc (#[] ++ [mlV (ms.getD i default)].toArray ++ cb) W (Ret fun v w' => ∃ b : Bool, v = .bool b ∧ (b = true ↔ Q i) ∧ Kp [] W w')) (hn : n < 4611686018427387904) : Calls Tryd.prog 24 #[.slice A n c, .func (.func fc) #[] cb] w0 (Ret fun v w' => ∃ r : Int, v = .int .i64 r ∧ Kp [] w0 w' ∧ ((r = -1 ∧ ∀ i, i < n → ¬ Q i) ∨ ∃ k, k < n ∧ r = (k : Int) ∧ Q k ∧ ∀ i, i < k → ¬ Q i)) := by
  refine enter (n := 19) Tryd.func24 rfl rfl rfl (fun ac F => ?_)
  have kp0 := Kp.refl ([] : List Nat) w0
  refine c_seq (fun K1 H2 => ?_)
  refine c_region ?_
  refine stp F (f_assign rfl) rfl rfl rfl (fun ac F => ?_)
  refine stpEnd ?_
  refine H2 _ _ ?_
  refine c_seq (fun K3 H4 => ?_)
  refine c_seq (fun K5 H6 => ?_)
  refine c_region ?_
  refine stp F (f_move rfl) rfl rfl rfl (fun ac F => ?_)
  refine stp F (f_len rfl Tryd.underlying28) rfl rfl rfl (fun ac F => ?_)
  refine stp F (f_move rfl) rfl rfl rfl (fun ac F => ?_)
  refine stpEnd ?_
  refine H6 _ _ ?_
  refine wp_block ?_
  refine c_loop (fun mx ax wx => ∃ (k : Nat), Fr ax 19 [(0, .slice A n c), (1, .func (.func fc) #[] cb), (6, .slice A n c), (7, .int .i64 (n : Int)), (8, .int .i64 (k : Int))] ∧ Kp [] w0 wx ∧ Sl wx lo hi 8 A n c (fun i => mlV (ms.getD i default)) ∧ (k ≤ n) ∧ (∀ i, i < k → ¬ Q i) ∧ mx = n - k) (n - 0) ?_ ?_
  · exact ⟨0, F.sub ⟨rfl, rfl, rfl, rfl, rfl, trivial⟩, kp0, hl, by omega, fun i hi => by omega, rfl⟩
  · clear F kp0 hl
    rintro m8 ac wl7 ⟨k, F, kp0, hl, hk, hno, hm⟩
    have hsz := kp0.size
    refine c_seq (fun K9 H10 => ?_)
    refine c_region ?_
    refine stp F (f_lss rfl rfl) rfl rfl rfl (fun ac F => ?_)
    refine stpEnd ?_
    refine H10 _ _ ?_
    refine c_seq (fun K11 H12 => ?_)
    by_cases hc13 : (k : Int) < (n : Int)
    · have hc := hc13
      replace F := F.setb (k := 9) (b' := true) rfl (decide_eq_true hc)
      clear hc
      refine c_true F rfl ?_
      refine wp_skip ?_
      refine H12 _ _ ?_
      refine c_seq (fun K14 H15 => ?_)
      refine wp_block ?_
      refine c_seq (fun K16 H17 => ?_)
      refine c_region ?_
      refine stp F (f_move rfl) rfl rfl rfl (fun ac F => ?_)
      refine stp F (f_assign rfl) rfl rfl rfl (fun ac F => ?_)
      refine stpEnd ?_
      refine H17 _ _ ?_
      refine c_seq (fun K18 H19 => ?_)
      refine c_region ?_
      refine stp F (f_move rfl) rfl rfl rfl (fun ac F => ?_)
      refine stp F (f_move rfl) rfl rfl rfl (fun ac F => ?_)
      refine stp F (f_move rfl) rfl rfl rfl (fun ac F => ?_)
      refine stp F (f_indexS (r := ((adr A).add (k * 8))) rfl rfl Tryd.underlying28 Tryd.sizeOf38 (by omega) (by omega) (hl.some_ (by omega)).1 (by rw [show Int.toNat (k : Int) = k from by omega])) rfl rfl rfl (fun ac F => ?_)
      refine stp F (f_loadN rfl Tryd.isAgg38 Tryd.sizeOf38 (hl.rd (i := k) (by omega) rfl)) rfl rfl rfl (fun ac F => ?_)
      refine stpC F (f_callV (vs := [.agg #[.int .i64 ((ms.getD k default).f), .int .i64 ((ms.getD k default).a 0), .int .i64 ((ms.getD k default).a 1), .int .i64 ((ms.getD k default).a 2), .int .i64 ((ms.getD k default).a 3), .int .i64 ((ms.getD k default).a 4), .int .i64 ((ms.getD k default).a 5), .string ((ms.getD k default).t)]]) rfl rfl hE) (hC _ k kp0 (by omega)) rfl rfl rfl ?_
      rintro _ w20 ac ⟨b, rfl, hb, kq21⟩ F
      have hsz := (kq21).size
      replace hl := hl.keep (kq21) (by simp)
      replace kp0 := kp0.trans (kq21) (by simp)
      refine stpEnd ?_
      refine H19 _ _ ?_
      by_cases hc22 : b = true
      · have hc := hc22
        replace F := F.setb (k := 16) (b' := true) rfl (hc)
        clear hc
        refine c_true F rfl ?_
        refine c_seq (fun K23 H24 => ?_)
        refine c_region ?_
        refine stp F (f_move rfl) rfl rfl rfl (fun ac F => ?_)
        refine stp F (f_assign rfl) rfl rfl rfl (fun ac F => ?_)
        refine stpEnd ?_
        refine H24 _ _ ?_
        refine wp_ret ?_
        refine ret1 F rfl rfl ?_
        exact ⟨_, rfl, kp0, .inr ⟨k, by omega, rfl, hb.1 hc22, hno⟩⟩
      · have hc := hc22
        replace F := F.setb (k := 16) (b' := false) rfl (Bool.eq_false_iff.2 hc)
        clear hc
        refine c_false F rfl ?_
        refine wp_skip ?_
        refine H15 _ _ ?_
        refine c_region ?_
        refine stp F (f_add (r := ((k + 1 : Nat) : Int)) rfl rfl (by rw [IntKind.wrap_i64]; omega)) rfl rfl rfl (fun ac F => ?_)
        refine stp F (f_move rfl) rfl rfl rfl (fun ac F => ?_)
        refine stpEnd ?_
        refine ⟨n - (k + 1), ?_, (k + 1), F.sub ⟨rfl, rfl, rfl, rfl, rfl, trivial⟩, kp0, hl, by omega, upto_next hno (fun hq => hc22 (hb.2 hq)), rfl⟩
        omega
    · have hc := hc13
      replace F := F.setb (k := 9) (b' := false) rfl (decide_eq_false hc)
      clear hc
      refine c_false F rfl ?_
      refine wp_exit ?_
      refine H4 _ _ ?_
      refine c_seq (fun K25 H26 => ?_)
      refine c_region ?_
      refine stp F (f_assign rfl) rfl rfl rfl (fun ac F => ?_)
      refine stpEnd ?_
      refine H26 _ _ ?_
      refine wp_ret ?_
      refine ret1 F rfl rfl ?_
      exact ⟨_, rfl, kp0, .inl ⟨rfl, fun i hi => hno i (by omega)⟩⟩

set_option maxHeartbeats 4000000 in
theorem ixmb_c (A : Option Addr) (n c fc lo hi : Nat) (cb : Array Value) (Q : Nat → Prop) (ms : List Ml) (w0 : World) (hl : Sl w0 lo hi 8 A n c (fun i => mlV (ms.getD i default))) (hE : Ent Tryd.prog fc) (hC : ∀ (W : World) (i : Nat), Kp [] w0 W → i < n → Calls Tryd.prog fc (#[] ++ [mlV (ms.getD i default)].toArray ++ cb) W (Ret fun v w' => ∃ b : Bool, v = .bool b ∧ (b = true ↔ Q i) ∧ Kp [] W w')) (hn : n < 4611686018427387904) : Calls Tryd.prog 20 #[.slice A n c, .func (.func fc) #[] cb] w0 (Ret fun v w' => ∃ b : Bool, v = .bool b ∧ (b = true ↔ ∃ i, i < n ∧ Q i) ∧ Kp [] w0 w') := by
  refine enter (n := 9) Tryd.func20 rfl rfl rfl (fun ac F => ?_)
  have kp0 := Kp.refl ([] : List Nat) w0
  refine c_seq (fun K1 H2 => ?_)
  refine c_region ?_
  refine stp F (f_assign rfl) rfl rfl rfl (fun ac F => ?_)
  refine stpEnd ?_
  refine H2 _ _ ?_
  refine c_seq (fun K3 H4 => ?_)
  refine c_region ?_
  refine stp F (f_move rfl) rfl rfl rfl (fun ac F => ?_)
  refine stp F (f_move rfl) rfl rfl rfl (fun ac F => ?_)
  refine stpC F (f_call (P := Tryd.prog) (f := 24) (vs := [.slice A n c, .func (.func fc) #[] cb]) rfl Tryd.call24) (ixm_c A n c fc lo hi cb Q ms _ hl hE hC hn) rfl rfl rfl ?_
  rintro _ w5 ac ⟨r, rfl, kq6, hr⟩ F
  have hsz := (kq6).size
  replace hl := hl.keep (kq6) (by simp)
  replace kp0 := kp0.trans (kq6) (by simp)
  refine stp F (f_geq rfl rfl) rfl rfl rfl (fun ac F => ?_)
  refine stp F (f_assign rfl) rfl rfl rfl (fun ac F => ?_)
  refine stpEnd ?_
  refine H4 _ _ ?_
  refine wp_ret ?_
  refine ret1 F rfl rfl ?_
  exact ⟨_, rfl, ix_any hr, kp0⟩

set_option maxHeartbeats 4000000 in
theorem formed_c (m : Ml) (w0 : World) : Calls Tryd.prog 19 #[.agg #[.int .i64 m.f, .int .i64 (m.a 0), .int .i64 (m.a 1), .int .i64 (m.a 2), .int .i64 (m.a 3), .int .i64 (m.a 4), .int .i64 (m.a 5), .string m.t]] w0 (Ret fun v w' => ∃ b : Bool, v = .bool b ∧ (b = true ↔ Formed m) ∧ Kp [] w0 w') := by
  refine enter (n := 20) Tryd.func19 rfl rfl rfl (fun ac F => ?_)
  have kp0 := Kp.refl ([] : List Nat) w0
  refine c_seq (fun K1 H2 => ?_)
  refine c_region ?_
  refine stpE F (f_box (cs := [.int .i64 m.f, .int .i64 (m.a 0), .int .i64 (m.a 1), .int .i64 (m.a 2), .int .i64 (m.a 3), .int .i64 (m.a 4), .int .i64 (m.a 5), .string m.t]) rfl rfl) rfl rfl rfl ?_
  rintro _ w4 ac ⟨g3, rfl, nb6⟩ F
  have n7 := nb6.num
  have z8 := nb6.size
  have hsz := (nb6.kp).size
  replace kp0 := kp0.trans (nb6.kp) (by simp)
  have hb5 : Blk w4 g3 38 ([.int .i64 m.f, .int .i64 (m.a 0), .int .i64 (m.a 1), .int .i64 (m.a 2), .int .i64 (m.a 3), .int .i64 (m.a 4), .int .i64 (m.a 5), .string m.t]) := nb6.blk
  refine stp F (f_assign rfl) rfl rfl rfl (fun ac F => ?_)
  refine stpEnd ?_
  refine H2 _ _ ?_
  refine c_seq (fun K9 H10 => ?_)
  refine c_region ?_
  refine stp F (f_fieldAddr (r := ⟨g3, 0, none⟩) (sz := 0) rfl Tryd.underlying38 rfl Tryd.sizeOf3 rfl) rfl rfl rfl (fun ac F => ?_)
  refine stp F (f_load1 (v := .int .i64 m.f) rfl Tryd.isAgg3 ((hb5.cell 0).trans rfl)) rfl rfl rfl (fun ac F => ?_)
  refine stpC F (f_call (P := Tryd.prog) (f := 30) (vs := [.int .i64 m.f, .int .i64 0, .int .i64 5]) rfl Tryd.call30) (in_c _ _ _ _) rfl rfl rfl ?_
  rintro _ w11 ac ⟨rfl, kq12⟩ F
  have hsz := (kq12).size
  replace hb5 := hb5.keep (kq12) (by simp)
  replace kp0 := kp0.trans (kq12) (by simp)
  refine stp F (f_move rfl) rfl rfl rfl (fun ac F => ?_)
  by_cases hc13 : 0 ≤ m.f ∧ m.f ≤ 5
  · have hc := hc13
    replace F := F.setb (k := 5) (b' := true) rfl (decide_eq_true hc)
    replace F := F.setb (k := 6) (b' := true) rfl (decide_eq_true hc)
    clear hc
    refine stp F (f_fieldAddr (r := ⟨g3, 1, none⟩) (sz := 5) rfl Tryd.underlying38 rfl Tryd.sizeOf30 rfl) rfl rfl rfl (fun ac F => ?_)
    refine stp F (f_sliceArr rfl Tryd.underlying30 Tryd.sizeOf3) rfl rfl rfl (fun ac F => ?_)
    refine stpC F (f_call (P := Tryd.prog) (f := 31) (vs := [.slice (some ⟨g3, 1, none⟩) 6 6, .func (.func 36) #[] #[]]) rfl Tryd.call31) (ixib_c _ 6 6 36 _ _ #[] (fun i => m.a i < 0) (m.a) _ (nums_sl hb5 rfl rfl rfl rfl rfl rfl) Tryd.call36 (fun W i hk hi => neg_b (neg1_c (m.a i) W)) (by omega)) rfl rfl rfl ?_
    rintro _ w14 ac ⟨b, rfl, hb16, kq15⟩ F
    have hsz := (kq15).size
    replace hb5 := hb5.keep (kq15) (by simp)
    replace kp0 := kp0.trans (kq15) (by simp)
    refine stp F (f_not rfl) rfl rfl rfl (fun ac F => ?_)
    refine stp F (f_pickT rfl rfl) rfl rfl rfl (fun ac F => ?_)
    refine stp F (f_move rfl) rfl rfl rfl (fun ac F => ?_)
    by_cases hc17 : b = true
    · have hc := hc17
      replace F := F.setb (k := 9) (b' := true) rfl (hc)
      replace F := F.setb (k := 10) (b' := false) rfl (nt (hc))
      replace F := F.setb (k := 11) (b' := false) rfl (nt (hc))
      replace F := F.setb (k := 12) (b' := false) rfl (nt (hc))
      clear hc
      refine stpN F rfl rfl rfl (fun ac F => ?_)
      refine stpN F rfl rfl rfl (fun ac F => ?_)
      refine stpN F rfl rfl rfl (fun ac F => ?_)
      refine stpN F rfl rfl rfl (fun ac F => ?_)
      refine stpN F rfl rfl rfl (fun ac F => ?_)
      refine stpN F rfl rfl rfl (fun ac F => ?_)
      refine stp F (f_pickF rfl rfl) rfl rfl rfl (fun ac F => ?_)
      refine stp F (f_assign rfl) rfl rfl rfl (fun ac F => ?_)
      refine stpEnd ?_
      refine H10 _ _ ?_
      refine wp_ret ?_
      refine ret1 F rfl rfl ?_
      exact ⟨false, rfl, ⟨fun h => (by cases h), fun h => (by obtain ⟨i, h1, h2⟩ := hb16.1 hc17; have := h.2.2.1 i h1; omega)⟩, kp0⟩
    · have hc := hc17
      replace F := F.setb (k := 9) (b' := false) rfl (Bool.eq_false_iff.2 hc)
      replace F := F.setb (k := 10) (b' := true) rfl (nf (Bool.eq_false_iff.2 hc))
      replace F := F.setb (k := 11) (b' := true) rfl (nf (Bool.eq_false_iff.2 hc))
      replace F := F.setb (k := 12) (b' := true) rfl (nf (Bool.eq_false_iff.2 hc))
      clear hc
      refine stp F (f_fieldAddr (r := ⟨g3, 0, none⟩) (sz := 0) rfl Tryd.underlying38 rfl Tryd.sizeOf3 rfl) rfl rfl rfl (fun ac F => ?_)
      refine stp F (f_load1 (v := .int .i64 m.f) rfl Tryd.isAgg3 ((hb5.cell 0).trans rfl)) rfl rfl rfl (fun ac F => ?_)
      refine stp F (f_fieldAddr (r := ⟨g3, 1, none⟩) (sz := 5) rfl Tryd.underlying38 rfl Tryd.sizeOf30 rfl) rfl rfl rfl (fun ac F => ?_)
      refine stp F (f_indexA (r := ⟨g3, 1 + m.f.toNat * 1, none⟩) rfl rfl Tryd.underlying30 Tryd.sizeOf3 (by omega) (by omega) (add_eq (by omega))) rfl rfl rfl (fun ac F => ?_)
      refine stp F (f_load1 (v := .int .i64 (m.a m.f.toNat)) rfl Tryd.isAgg3 ((hb5.cell _).trans (six (o := 1) (q := 1 + m.f.toNat * 1) (f := fun i_ => .int .i64 (m.a i_)) rfl rfl rfl rfl rfl rfl (j := m.f.toNat) (by omega) (by omega)))) rfl rfl rfl (fun ac F => ?_)
      refine stp F (f_gtr rfl rfl) rfl rfl rfl (fun ac F => ?_)
      refine stp F (f_pickT rfl rfl) rfl rfl rfl (fun ac F => ?_)
      refine stp F (f_assign rfl) rfl rfl rfl (fun ac F => ?_)
      refine stpEnd ?_
      refine H10 _ _ ?_
      refine wp_ret ?_
      refine ret1 F rfl rfl ?_
      have hnn : ∀ i, i < 6 → 0 ≤ m.a i := fun i hi => (by by_cases h : m.a i < 0; exact absurd (hb16.2 ⟨i, hi, h⟩) hc17; omega)
      exact ⟨_, rfl, ⟨fun h => ⟨hc13.1, hc13.2, hnn, by simpa using h⟩, fun h => by simpa using h.2.2.2⟩, kp0⟩
  · have hc := hc13
    replace F := F.setb (k := 5) (b' := false) rfl (decide_eq_false hc)
    replace F := F.setb (k := 6) (b' := false) rfl (decide_eq_false hc)
    clear hc
    refine stpN F rfl rfl rfl (fun ac F => ?_)
    refine stpN F rfl rfl rfl (fun ac F => ?_)
    refine stpN F rfl rfl rfl (fun ac F => ?_)
    refine stpN F rfl rfl rfl (fun ac F => ?_)
    refine stp F (f_pickF rfl rfl) rfl rfl rfl (fun ac F => ?_)
    refine stp F (f_move rfl) rfl rfl rfl (fun ac F => ?_)
    refine stpN F rfl rfl rfl (fun ac F => ?_)
    refine stpN F rfl rfl rfl (fun ac F => ?_)
    refine stpN F rfl rfl rfl (fun ac F => ?_)
    refine stpN F rfl rfl rfl (fun ac F => ?_)
    refine stpN F rfl rfl rfl (fun ac F => ?_)
    refine stpN F rfl rfl rfl (fun ac F => ?_)
    refine stp F (f_pickF rfl rfl) rfl rfl rfl (fun ac F => ?_)
    refine stp F (f_assign rfl) rfl rfl rfl (fun ac F => ?_)
    refine stpEnd ?_
    refine H10 _ _ ?_
    refine wp_ret ?_
    refine ret1 F rfl rfl ?_
    exact ⟨false, rfl, ⟨fun h => (by cases h), fun h => absurd ⟨h.1, h.2.1⟩ hc13⟩, kp0⟩

end Go.Proofs.YtkbngaollbmcbaaDoor.KK

namespace Go.Proofs.YtkbngaollbmcbaaDoor.KK
open Go Go.RowKit

set_option maxHeartbeats 4000000 in
theorem hear1_c (gm : Nat) (x m : Ml) (w0 : World) (hm : Blk w0 gm 38 ([.int .i64 m.f, .int .i64 (m.a 0), .int .i64 (m.a 1), .int .i64 (m.a 2), .int .i64 (m.a 3), .int .i64 (m.a 4), .int .i64 (m.a 5), .string m.t])) (hx : 0 ≤ x.f ∧ x.f ≤ 5) (hy : 0 ≤ m.f ∧ m.f ≤ 5) : Calls Tryd.prog 21 #[.agg #[.int .i64 x.f, .int .i64 (x.a 0), .int .i64 (x.a 1), .int .i64 (x.a 2), .int .i64 (x.a 3), .int .i64 (x.a 4), .int .i64 (x.a 5), .string x.t], .pointer (some ⟨gm, 0, none⟩)] w0 (Ret fun v w' => ∃ b : Bool, v = .bool b ∧ (b = true ↔ Same x m) ∧ Kp [] w0 w') := by
  refine enter (n := 7) Tryd.func21 rfl rfl rfl (fun ac F => ?_)
  have kp0 := Kp.refl ([] : List Nat) w0
  refine c_seq (fun K1 H2 => ?_)
  refine c_region ?_
  refine stpE F (f_box (cs := [.int .i64 x.f, .int .i64 (x.a 0), .int .i64 (x.a 1), .int .i64 (x.a 2), .int .i64 (x.a 3), .int .i64 (x.a 4), .int .i64 (x.a 5), .string x.t]) rfl rfl) rfl rfl rfl ?_
  rintro _ w4 ac ⟨g3, rfl, nb6⟩ F
  have n7 := nb6.num
  have z8 := nb6.size
  have hsz := (nb6.kp).size
  replace hm := hm.keep (nb6.kp) (by simp)
  replace kp0 := kp0.trans (nb6.kp) (by simp)
  have hb5 : Blk w4 g3 38 ([.int .i64 x.f, .int .i64 (x.a 0), .int .i64 (x.a 1), .int .i64 (x.a 2), .int .i64 (x.a 3), .int .i64 (x.a 4), .int .i64 (x.a 5), .string x.t]) := nb6.blk
  refine stp F (f_assign rfl) rfl rfl rfl (fun ac F => ?_)
  refine stpEnd ?_
  refine H2 _ _ ?_
  refine c_seq (fun K9 H10 => ?_)
  refine c_region ?_
  refine stp F (f_loadN rfl Tryd.isAgg38 Tryd.sizeOf38 hb5.rdAll) rfl rfl rfl (fun ac F => ?_)
  refine stp F (f_loadN rfl Tryd.isAgg38 Tryd.sizeOf38 hm.rdAll) rfl rfl rfl (fun ac F => ?_)
  refine stpC F (f_call (P := Tryd.prog) (f := 22) (vs := [.agg #[.int .i64 x.f, .int .i64 (x.a 0), .int .i64 (x.a 1), .int .i64 (x.a 2), .int .i64 (x.a 3), .int .i64 (x.a 4), .int .i64 (x.a 5), .string x.t], .agg #[.int .i64 m.f, .int .i64 (m.a 0), .int .i64 (m.a 1), .int .i64 (m.a 2), .int .i64 (m.a 3), .int .i64 (m.a 4), .int .i64 (m.a 5), .string m.t]]) rfl Tryd.call22) (same_c x m _ hx hy) rfl rfl rfl ?_
  rintro _ w11 ac ⟨b13, rfl, hb14, kq12⟩ F
  have hsz := (kq12).size
  replace hm := hm.keep (kq12) (by simp)
  replace hb5 := hb5.keep (kq12) (by simp)
  replace kp0 := kp0.trans (kq12) (by simp)
  refine stp F (f_assign rfl) rfl rfl rfl (fun ac F => ?_)
  refine stpEnd ?_
  refine H10 _ _ ?_
  refine wp_ret ?_
  refine ret1 F rfl rfl ?_
  exact ⟨_, rfl, hb14, kp0⟩

set_option maxHeartbeats 4000000 in
theorem check2_c (gm : Nat) (x m : Ml) (w0 : World) (hm : Blk w0 gm 38 ([.int .i64 m.f, .int .i64 (m.a 0), .int .i64 (m.a 1), .int .i64 (m.a 2), .int .i64 (m.a 3), .int .i64 (m.a 4), .int .i64 (m.a 5), .string m.t])) (hx : 0 ≤ x.f ∧ x.f ≤ 5) (hy : 0 ≤ m.f ∧ m.f ≤ 5) : Calls Tryd.prog 33 #[.agg #[.int .i64 x.f, .int .i64 (x.a 0), .int .i64 (x.a 1), .int .i64 (x.a 2), .int .i64 (x.a 3), .int .i64 (x.a 4), .int .i64 (x.a 5), .string x.t], .pointer (some ⟨gm, 0, none⟩)] w0 (Ret fun v w' => ∃ b : Bool, v = .bool b ∧ (b = true ↔ Same x m) ∧ Kp [] w0 w') := by
  refine enter (n := 7) Tryd.func33 rfl rfl rfl (fun ac F => ?_)
  have kp0 := Kp.refl ([] : List Nat) w0
  refine c_seq (fun K1 H2 => ?_)
  refine c_region ?_
  refine stpE F (f_box (cs := [.int .i64 x.f, .int .i64 (x.a 0), .int .i64 (x.a 1), .int .i64 (x.a 2), .int .i64 (x.a 3), .int .i64 (x.a 4), .int .i64 (x.a 5), .string x.t]) rfl rfl) rfl rfl rfl ?_
  rintro _ w4 ac ⟨g3, rfl, nb6⟩ F
  have n7 := nb6.num
  have z8 := nb6.size
  have hsz := (nb6.kp).size
  replace hm := hm.keep (nb6.kp) (by simp)
  replace kp0 := kp0.trans (nb6.kp) (by simp)
  have hb5 : Blk w4 g3 38 ([.int .i64 x.f, .int .i64 (x.a 0), .int .i64 (x.a 1), .int .i64 (x.a 2), .int .i64 (x.a 3), .int .i64 (x.a 4), .int .i64 (x.a 5), .string x.t]) := nb6.blk
  refine stp F (f_assign rfl) rfl rfl rfl (fun ac F => ?_)
  refine stpEnd ?_
  refine H2 _ _ ?_
  refine c_seq (fun K9 H10 => ?_)
  refine c_region ?_
  refine stp F (f_loadN rfl Tryd.isAgg38 Tryd.sizeOf38 hb5.rdAll) rfl rfl rfl (fun ac F => ?_)
  refine stp F (f_loadN rfl Tryd.isAgg38 Tryd.sizeOf38 hm.rdAll) rfl rfl rfl (fun ac F => ?_)
  refine stpC F (f_call (P := Tryd.prog) (f := 22) (vs := [.agg #[.int .i64 x.f, .int .i64 (x.a 0), .int .i64 (x.a 1), .int .i64 (x.a 2), .int .i64 (x.a 3), .int .i64 (x.a 4), .int .i64 (x.a 5), .string x.t], .agg #[.int .i64 m.f, .int .i64 (m.a 0), .int .i64 (m.a 1), .int .i64 (m.a 2), .int .i64 (m.a 3), .int .i64 (m.a 4), .int .i64 (m.a 5), .string m.t]]) rfl Tryd.call22) (same_c x m _ hx hy) rfl rfl rfl ?_
  rintro _ w11 ac ⟨b13, rfl, hb14, kq12⟩ F
  have hsz := (kq12).size
  replace hm := hm.keep (kq12) (by simp)
  replace hb5 := hb5.keep (kq12) (by simp)
  replace kp0 := kp0.trans (kq12) (by simp)
  refine stp F (f_assign rfl) rfl rfl rfl (fun ac F => ?_)
  refine stpEnd ?_
  refine H10 _ _ ?_
  refine wp_ret ?_
  refine ret1 F rfl rfl ?_
  exact ⟨_, rfl, hb14, kp0⟩

set_option maxHeartbeats 4000000 in
theorem hear2_c (gc n c : Nat) (A : Option Addr) (me : Int) (s : Nat → Int) (x : Ml) (w0 : World) (hc : Blk w0 gc 32 ([.int .i64 me, .int .i64 (s 0), .int .i64 (s 1), .int .i64 (s 2), .int .i64 (s 3), .int .i64 (s 4), .int .i64 (s 5), .slice A n c])) (hs : ∀ i, i < 6 → 0 ≤ s i ∧ s i ≤ 16777215) : Calls Tryd.prog 25 #[.agg #[.int .i64 x.f, .int .i64 (x.a 0), .int .i64 (x.a 1), .int .i64 (x.a 2), .int .i64 (x.a 3), .int .i64 (x.a 4), .int .i64 (x.a 5), .string x.t], .pointer (some ⟨gc, 0, none⟩)] w0 (Ret fun v w' => ∃ b : Bool, v = .bool b ∧ (b = true ↔ Rdy s x) ∧ Kp [] w0 w') := by
  refine enter (n := 8) Tryd.func25 rfl rfl rfl (fun ac F => ?_)
  have kp0 := Kp.refl ([] : List Nat) w0
  refine c_seq (fun K1 H2 => ?_)
  refine c_region ?_
  refine stpE F (f_box (cs := [.int .i64 x.f, .int .i64 (x.a 0), .int .i64 (x.a 1), .int .i64 (x.a 2), .int .i64 (x.a 3), .int .i64 (x.a 4), .int .i64 (x.a 5), .string x.t]) rfl rfl) rfl rfl rfl ?_
  rintro _ w4 ac ⟨g3, rfl, nb6⟩ F
  have n7 := nb6.num
  have z8 := nb6.size
  have hsz := (nb6.kp).size
  replace hc := hc.keep (nb6.kp) (by simp)
  replace kp0 := kp0.trans (nb6.kp) (by simp)
  have hb5 : Blk w4 g3 38 ([.int .i64 x.f, .int .i64 (x.a 0), .int .i64 (x.a 1), .int .i64 (x.a 2), .int .i64 (x.a 3), .int .i64 (x.a 4), .int .i64 (x.a 5), .string x.t]) := nb6.blk
  refine stp F (f_assign rfl) rfl rfl rfl (fun ac F => ?_)
  refine stpEnd ?_
  refine H2 _ _ ?_
  refine c_seq (fun K9 H10 => ?_)
  refine c_region ?_
  refine stp F (f_fieldAddr (r := ⟨gc, 1, none⟩) (sz := 5) rfl Tryd.underlying32 rfl Tryd.sizeOf30 rfl) rfl rfl rfl (fun ac F => ?_)
  refine stp F (f_loadN (vs := #[.int .i64 (s 0), .int .i64 (s 1), .int .i64 (s 2), .int .i64 (s 3), .int .i64 (s 4), .int .i64 (s 5)]) rfl Tryd.isAgg30 Tryd.sizeOf30 (hc.rd (o := 1) rfl (by intro j u hu; exact part_at (ps := [.int .i64 (s 0), .int .i64 (s 1), .int .i64 (s 2), .int .i64 (s 3), .int .i64 (s 4), .int .i64 (s 5)]) (by rfl) (by simpa [Value.cells] using hu)))) rfl rfl rfl (fun ac F => ?_)
  refine stp F (f_loadN rfl Tryd.isAgg38 Tryd.sizeOf38 hb5.rdAll) rfl rfl rfl (fun ac F => ?_)
  refine stpC F (f_call (P := Tryd.prog) (f := 23) (vs := [.agg #[.int .i64 (s 0), .int .i64 (s 1), .int .i64 (s 2), .int .i64 (s 3), .int .i64 (s 4), .int .i64 (s 5)], .agg #[.int .i64 x.f, .int .i64 (x.a 0), .int .i64 (x.a 1), .int .i64 (x.a 2), .int .i64 (x.a 3), .int .i64 (x.a 4), .int .i64 (x.a 5), .string x.t]]) rfl Tryd.call23) (rdy_c s x _ hs) rfl rfl rfl ?_
  rintro _ w11 ac ⟨b13, rfl, hb14, kq12⟩ F
  have hsz := (kq12).size
  replace hc := hc.keep (kq12) (by simp)
  replace hb5 := hb5.keep (kq12) (by simp)
  replace kp0 := kp0.trans (kq12) (by simp)
  refine stp F (f_assign rfl) rfl rfl rfl (fun ac F => ?_)
  refine stpEnd ?_
  refine H10 _ _ ?_
  refine wp_ret ?_
  refine ret1 F rfl rfl ?_
  exact ⟨_, rfl, hb14, kp0⟩

set_option maxHeartbeats 4000000 in
theorem hear3_c (gc n c : Nat) (A : Option Addr) (me : Int) (s : Nat → Int) (x : Ml) (w0 : World) (hc : Blk w0 gc 32 ([.int .i64 me, .int .i64 (s 0), .int .i64 (s 1), .int .i64 (s 2), .int .i64 (s 3), .int .i64 (s 4), .int .i64 (s 5), .slice A n c])) (hx : 0 ≤ x.f ∧ x.f ≤ 5) : Calls Tryd.prog 28 #[.agg #[.int .i64 x.f, .int .i64 (x.a 0), .int .i64 (x.a 1), .int .i64 (x.a 2), .int .i64 (x.a 3), .int .i64 (x.a 4), .int .i64 (x.a 5), .string x.t], .pointer (some ⟨gc, 0, none⟩)] w0 (Ret fun v w' => ∃ b : Bool, v = .bool b ∧ (b = true ↔ x.a x.f.toNat ≤ s x.f.toNat) ∧ Kp [] w0 w') := by
  refine enter (n := 15) Tryd.func28 rfl rfl rfl (fun ac F => ?_)
  have kp0 := Kp.refl ([] : List Nat) w0
  refine c_seq (fun K1 H2 => ?_)
  refine c_region ?_
  refine stpE F (f_box (cs := [.int .i64 x.f, .int .i64 (x.a 0), .int .i64 (x.a 1), .int .i64 (x.a 2), .int .i64 (x.a 3), .int .i64 (x.a 4), .int .i64 (x.a 5), .string x.t]) rfl rfl) rfl rfl rfl ?_
  rintro _ w4 ac ⟨g3, rfl, nb6⟩ F
  have n7 := nb6.num
  have z8 := nb6.size
  have hsz := (nb6.kp).size
  replace hc := hc.keep (nb6.kp) (by simp)
  replace kp0 := kp0.trans (nb6.kp) (by simp)
  have hb5 : Blk w4 g3 38 ([.int .i64 x.f, .int .i64 (x.a 0), .int .i64 (x.a 1), .int .i64 (x.a 2), .int .i64 (x.a 3), .int .i64 (x.a 4), .int .i64 (x.a 5), .string x.t]) := nb6.blk
  refine stp F (f_assign rfl) rfl rfl rfl (fun ac F => ?_)
  refine stpEnd ?_
  refine H2 _ _ ?_
  refine c_seq (fun K9 H10 => ?_)
  refine c_draw 12 (by rfl) (by decide +kernel) (fun wx => Kp [] w4 wx) (Kp.drew _) ?_
  refine tP F rfl (fun wq => f_fieldAddr (r := ⟨g3, 0, none⟩) (sz := 0) rfl Tryd.underlying38 rfl Tryd.sizeOf3 rfl) rfl rfl rfl (fun ac F => ?_)
  refine tQ F rfl (fun wq hq => f_load1 (v := .int .i64 x.f) rfl Tryd.isAgg3 (((hb5.keep hq (by simp)).cell 0).trans rfl)) rfl rfl rfl (fun ac F => ?_)
  refine tP F rfl (fun wq => f_fieldAddr (r := ⟨g3, 1, none⟩) (sz := 5) rfl Tryd.underlying38 rfl Tryd.sizeOf30 rfl) rfl rfl rfl (fun ac F => ?_)
  refine tP F rfl (fun wq => f_indexA (r := ⟨g3, 1 + x.f.toNat * 1, none⟩) rfl rfl Tryd.underlying30 Tryd.sizeOf3 (by omega) (by omega) (add_eq (by omega))) rfl rfl rfl (fun ac F => ?_)
  refine tQ F rfl (fun wq hq => f_load1 (v := .int .i64 (x.a x.f.toNat)) rfl Tryd.isAgg3 (((hb5.keep hq (by simp)).cell _).trans (six (o := 1) (q := 1 + x.f.toNat * 1) (f := fun i_ => .int .i64 (x.a i_)) rfl rfl rfl rfl rfl rfl (j := x.f.toNat) (by omega) (by omega)))) rfl rfl rfl (fun ac F => ?_)
  refine tP F rfl (fun wq => f_fieldAddr (r := ⟨g3, 0, none⟩) (sz := 0) rfl Tryd.underlying38 rfl Tryd.sizeOf3 rfl) rfl rfl rfl (fun ac F => ?_)
  refine tQ F rfl (fun wq hq => f_load1 (v := .int .i64 x.f) rfl Tryd.isAgg3 (((hb5.keep hq (by simp)).cell 0).trans rfl)) rfl rfl rfl (fun ac F => ?_)
  refine tP F rfl (fun wq => f_fieldAddr (r := ⟨gc, 1, none⟩) (sz := 5) rfl Tryd.underlying32 rfl Tryd.sizeOf30 rfl) rfl rfl rfl (fun ac F => ?_)
  refine tP F rfl (fun wq => f_indexA (r := ⟨gc, 1 + x.f.toNat * 1, none⟩) rfl rfl Tryd.underlying30 Tryd.sizeOf3 (by omega) (by omega) (add_eq (by omega))) rfl rfl rfl (fun ac F => ?_)
  refine tQ F rfl (fun wq hq => f_load1 (v := .int .i64 (s x.f.toNat)) rfl Tryd.isAgg3 (((hc.keep hq (by simp)).cell _).trans (six (o := 1) (q := 1 + x.f.toNat * 1) (f := fun i_ => .int .i64 (s i_)) rfl rfl rfl rfl rfl rfl (j := x.f.toNat) (by omega) (by omega)))) rfl rfl rfl (fun ac F => ?_)
  refine tP F rfl (fun wq => f_leq rfl rfl) rfl rfl rfl (fun ac F => ?_)
  refine tP F rfl (fun wq => f_assign rfl) rfl rfl rfl (fun ac F => ?_)
  refine tEnd (fun w11 hq => ?_)
  have hsz := hq.size
  replace hc := hc.keep hq (by simp)
  replace hb5 := hb5.keep hq (by simp)
  replace kp0 := kp0.trans hq (by simp)
  refine H10 _ _ ?_
  refine wp_ret ?_
  refine ret1 F rfl rfl ?_
  exact ⟨_, rfl, by simp, kp0⟩

set_option maxHeartbeats 4000000 in
theorem check_c (A : Option Addr) (c : Nat) (me : Int) (s : Nat → Int) (hold : List Ml) (w0 : World) (hh : Sl w0 0 w0.heap.size 8 A hold.length c (fun i => mlV (hold.getD i default))) (hV : Valid me s hold) : Calls Tryd.prog 16 #[.agg #[.int .i64 me, .int .i64 (s 0), .int .i64 (s 1), .int .i64 (s 2), .int .i64 (s 3), .int .i64 (s 4), .int .i64 (s 5), .slice A hold.length c]] w0 (Ret fun v w' => v = .int .i64 0 ∧ Kp [] w0 w') := by
  refine enter (n := 66) Tryd.func16 rfl rfl rfl (fun ac F => ?_)
  have kp0 := Kp.refl ([] : List Nat) w0
  have hme := hV.hme
  have hs := hV.hs
  have h40 := hV.len
  refine c_seq (fun K1 H2 => ?_)
  refine c_region ?_
  refine stpE F (f_box (cs := [.int .i64 me, .int .i64 (s 0), .int .i64 (s 1), .int .i64 (s 2), .int .i64 (s 3), .int .i64 (s 4), .int .i64 (s 5), .slice A hold.length c]) rfl rfl) rfl rfl rfl ?_
  rintro _ w4 ac ⟨g3, rfl, nb6⟩ F
  have n7 := nb6.num
  have z8 := nb6.size
  have hsz := (nb6.kp).size
  replace hh := hh.keep (nb6.kp) (by simp)
  replace kp0 := kp0.trans (nb6.kp) (by simp)
  have hb5 : Blk w4 g3 32 ([.int .i64 me, .int .i64 (s 0), .int .i64 (s 1), .int .i64 (s 2), .int .i64 (s 3), .int .i64 (s 4), .int .i64 (s 5), .slice A hold.length c]) := nb6.blk
  refine stp F (f_assign rfl) rfl rfl rfl (fun ac F => ?_)
  refine stpEnd ?_
  refine H2 _ _ ?_
  refine c_seq (fun K9 H10 => ?_)
  refine wp_block ?_
  refine c_seq (fun K11 H12 => ?_)
  refine c_region ?_
  refine stp F (f_fieldAddr (r := ⟨g3, 0, none⟩) (sz := 0) rfl Tryd.underlying32 rfl Tryd.sizeOf3 rfl) rfl rfl rfl (fun ac F => ?_)
  refine stp F (f_load1 (v := .int .i64 me) rfl Tryd.isAgg3 ((hb5.cell 0).trans rfl)) rfl rfl rfl (fun ac F => ?_)
  refine stpC F (f_call (P := Tryd.prog) (f := 30) (vs := [.int .i64 me, .int .i64 0, .int .i64 5]) rfl Tryd.call30) (in_c _ _ _ _) rfl rfl rfl ?_
  rintro _ w13 ac ⟨rfl, kq14⟩ F
  have hsz := (kq14).size
  replace hh := hh.keep (kq14) (by simp)
  replace hb5 := hb5.keep (kq14) (by simp)
  replace kp0 := kp0.trans (kq14) (by simp)
  refine stp F (f_not rfl) rfl rfl rfl (fun ac F => ?_)
  refine stp F (f_move rfl) rfl rfl rfl (fun ac F => ?_)
  have hc : 0 ≤ me ∧ me ≤ 5 := by exact hme
  replace F := F.setb (k := 8) (b' := true) rfl (decide_eq_true hc)
  replace F := F.setb (k := 9) (b' := false) rfl (nt (decide_eq_true hc))
  replace F := F.setb (k := 10) (b' := false) rfl (nt (decide_eq_true hc))
  refine stp F (f_fieldAddr (r := ⟨g3, 1, none⟩) (sz := 5) rfl Tryd.underlying32 rfl Tryd.sizeOf30 rfl) rfl rfl rfl (fun ac F => ?_)
  refine stp F (f_sliceArr rfl Tryd.underlying30 Tryd.sizeOf3) rfl rfl rfl (fun ac F => ?_)
  refine stpC F (f_call (P := Tryd.prog) (f := 31) (vs := [.slice (some ⟨g3, 1, none⟩) 6 6, .func (.func 32) #[] #[]]) rfl Tryd.call31) (ixib_c _ 6 6 32 _ _ #[] (fun i => s i < 0) (s) _ (nums_sl hb5 rfl rfl rfl rfl rfl rfl) Tryd.call32 (fun W i hk hi => neg_b (neg2_c (s i) W)) (by omega)) rfl rfl rfl ?_
  rintro _ w15 ac ⟨b, rfl, hbn, kq16⟩ F
  have hsz := (kq16).size
  replace hh := hh.keep (kq16) (by simp)
  replace hb5 := hb5.keep (kq16) (by simp)
  replace kp0 := kp0.trans (kq16) (by simp)
  refine stp F (f_pickF rfl rfl) rfl rfl rfl (fun ac F => ?_)
  refine stp F (f_assign rfl) rfl rfl rfl (fun ac F => ?_)
  refine stpEnd ?_
  refine H12 _ _ ?_
  have hc : ¬ (b = true) := by exact fun hx_ => (by obtain ⟨i, h1, h2⟩ := hbn.1 hx_; have := (hs i h1).1; omega)
  replace F := F.setb (k := 13) (b' := false) rfl (Bool.eq_false_iff.2 hc)
  replace F := F.setb (k := 14) (b' := false) rfl (Bool.eq_false_iff.2 hc)
  replace F := F.setb (k := 5) (b' := false) rfl (Bool.eq_false_iff.2 hc)
  refine c_false F rfl ?_
  refine c_seq (fun K18 H19 => ?_)
  refine c_region ?_
  refine stp F (f_fieldAddr (r := ⟨g3, 7, none⟩) (sz := 0) rfl Tryd.underlying32 rfl Tryd.sizeOf28 rfl) rfl rfl rfl (fun ac F => ?_)
  refine stp F (f_load1 (v := .slice A hold.length c) rfl Tryd.isAgg28 ((hb5.cell 7).trans rfl)) rfl rfl rfl (fun ac F => ?_)
  refine stp F (f_len rfl Tryd.underlying28) rfl rfl rfl (fun ac F => ?_)
  refine stp F (f_gtr rfl rfl) rfl rfl rfl (fun ac F => ?_)
  refine stp F (f_assign rfl) rfl rfl rfl (fun ac F => ?_)
  refine stpEnd ?_
  refine H19 _ _ ?_
  have hc : ¬ (40 < ((hold.length : Nat) : Int)) := by omega
  replace F := F.setb (k := 19) (b' := false) rfl (decide_eq_false hc)
  replace F := F.setb (k := 15) (b' := false) rfl (decide_eq_false hc)
  refine c_false F rfl ?_
  refine wp_skip ?_
  refine H10 _ _ ?_
  refine c_seq (fun K20 H21 => ?_)
  refine c_seq (fun K22 H23 => ?_)
  refine c_region ?_
  refine stp F (f_fieldAddr (r := ⟨g3, 7, none⟩) (sz := 0) rfl Tryd.underlying32 rfl Tryd.sizeOf28 rfl) rfl rfl rfl (fun ac F => ?_)
  refine stp F (f_load1 (v := .slice A hold.length c) rfl Tryd.isAgg28 ((hb5.cell 7).trans rfl)) rfl rfl rfl (fun ac F => ?_)
  refine stp F (f_len rfl Tryd.underlying28) rfl rfl rfl (fun ac F => ?_)
  refine stp F (f_move rfl) rfl rfl rfl (fun ac F => ?_)
  refine stpEnd ?_
  refine H23 _ _ ?_
  refine wp_block ?_
  refine c_loop (fun mx ax wx => ∃ (k : Nat), Fr ax 66 [(1, .pointer (some ⟨g3, 0, none⟩)), (21, .slice A hold.length c), (22, .int .i64 ((hold.length : Nat) : Int)), (23, .int .i64 (k : Int))] ∧ Kp [] w0 wx ∧ Sl wx 0 w0.heap.size 8 A hold.length c (fun i => mlV (hold.getD i default)) ∧ Blk wx g3 32 ([.int .i64 me, .int .i64 (s 0), .int .i64 (s 1), .int .i64 (s 2), .int .i64 (s 3), .int .i64 (s 4), .int .i64 (s 5), .slice A hold.length c]) ∧ (k ≤ hold.length) ∧ mx = hold.length - k) (hold.length - 0) ?_ ?_
  · exact ⟨0, F.sub ⟨rfl, rfl, rfl, rfl, trivial⟩, kp0, hh, hb5, by omega, rfl⟩
  · clear F kp0 hh hb5
    rintro m25 ac wl24 ⟨k, F, kp0, hh, hb5, hk, hm⟩
    have hsz := kp0.size
    have lt_hb5 := hb5.lt
    refine c_seq (fun K26 H27 => ?_)
    refine c_region ?_
    refine stp F (f_lss rfl rfl) rfl rfl rfl (fun ac F => ?_)
    refine stpEnd ?_
    refine H27 _ _ ?_
    refine c_seq (fun K28 H29 => ?_)
    by_cases hc30 : (k : Int) < ((hold.length : Nat) : Int)
    · have hc := hc30
      replace F := F.setb (k := 24) (b' := true) rfl (decide_eq_true hc)
      clear hc
      refine c_true F rfl ?_
      refine wp_skip ?_
      refine H29 _ _ ?_
      refine c_seq (fun K31 H32 => ?_)
      refine wp_block ?_
      refine c_seq (fun K33 H34 => ?_)
      refine c_region ?_
      refine stp F (f_move rfl) rfl rfl rfl (fun ac F => ?_)
      refine stp F (f_indexS (r := ((adr A).add (k * 8))) rfl rfl Tryd.underlying28 Tryd.sizeOf38 (by omega) (by omega) (hh.some_ (by omega)).1 (by rw [show Int.toNat (k : Int) = k from by omega])) rfl rfl rfl (fun ac F => ?_)
      refine stp F (f_loadN rfl Tryd.isAgg38 Tryd.sizeOf38 (hh.rd (i := k) (by omega) rfl)) rfl rfl rfl (fun ac F => ?_)
      refine stpE F (f_alloc (cs := [.int .i64 0, .int .i64 0, .int .i64 0, .int .i64 0, .int .i64 0, .int .i64 0, .int .i64 0, .string ByteArray.empty]) Tryd.zeroValue38 rfl) rfl rfl rfl ?_
      rintro _ w36 ac ⟨g35, rfl, nb38⟩ F
      have n39 := nb38.num
      have z40 := nb38.size
      have hsz := (nb38.kp).size
      replace hh := hh.keep (nb38.kp) (by simp)
      replace hb5 := hb5.keep (nb38.kp) (by simp)
      replace kp0 := kp0.trans (nb38.kp) (by simp)
      have hb37 : Blk w36 g35 38 ([.int .i64 0, .int .i64 0, .int .i64 0, .int .i64 0, .int .i64 0, .int .i64 0, .int .i64 0, .string ByteArray.empty]) := nb38.blk
      refine stp F (f_assign rfl) rfl rfl rfl (fun ac F => ?_)
      refine stpW F (f_store (v := .agg #[.int .i64 ((hold.getD k default).f), .int .i64 ((hold.getD k default).a 0), .int .i64 ((hold.getD k default).a 1), .int .i64 ((hold.getD k default).a 2), .int .i64 ((hold.getD k default).a 3), .int .i64 ((hold.getD k default).a 4), .int .i64 ((hold.getD k default).a 5), .string ((hold.getD k default).t)]) (vs := [.int .i64 ((hold.getD k default).f), .int .i64 ((hold.getD k default).a 0), .int .i64 ((hold.getD k default).a 1), .int .i64 ((hold.getD k default).a 2), .int .i64 ((hold.getD k default).a 3), .int .i64 ((hold.getD k default).a 4), .int .i64 ((hold.getD k default).a 5), .string ((hold.getD k default).t)]) rfl rfl hb37 Tryd.sizeOf38 rfl rfl (by simp) (by simp [plainV])) rfl rfl ?_
      rintro w41 ac wr42 F
      have z43 := wr42.size
      have hsz := (wr42.kp).size
      replace hh := hh.keep (wr42.kp) (by intro x hx; simp at hx; omega)
      replace hb5 := hb5.keep (wr42.kp) (by have := hb5.lt; simp; omega)
      replace kp0 := kp0.trans (wr42.kp) (by intro x hx hl; simp at hx; omega)
      replace hb37 : Blk w41 g35 38 ([.int .i64 ((hold.getD k default).f), .int .i64 ((hold.getD k default).a 0), .int .i64 ((hold.getD k default).a 1), .int .i64 ((hold.getD k default).a 2), .int .i64 ((hold.getD k default).a 3), .int .i64 ((hold.getD k default).a 4), .int .i64 ((hold.getD k default).a 5), .string ((hold.getD k default).t)]) := wr42.blk
      refine stpEnd ?_
      refine H34 _ _ ?_
      refine c_seq (fun K44 H45 => ?_)
      have hkk : k < hold.length := by omega
      have hrg := hV.rng k hkk
      refine c_draw 37 (by rfl) (by decide +kernel) (fun wx => Kp [] w41 wx) (Kp.drew _) ?_
      refine tQ F rfl (fun wq hq => f_loadN rfl Tryd.isAgg38 Tryd.sizeOf38 (hb37.keep hq (by simp)).rdAll) rfl rfl rfl (fun ac F => ?_)
      refine tC F rfl (fun wq => f_call (P := Tryd.prog) (f := 19) (vs := [.agg #[.int .i64 ((hold.getD k default).f), .int .i64 ((hold.getD k default).a 0), .int .i64 ((hold.getD k default).a 1), .int .i64 ((hold.getD k default).a 2), .int .i64 ((hold.getD k default).a 3), .int .i64 ((hold.getD k default).a 4), .int .i64 ((hold.getD k default).a 5), .string ((hold.getD k default).t)]]) rfl Tryd.call19) (fun wq hq => (bool_t (formed_c (hold.getD k default) _) ((hV.at k hkk).1)).mono fun e w h => by cases e <;> first | exact ⟨h.1, hq.trans h.2 (by simp)⟩ | exact h.elim) rfl rfl rfl (fun ac F => ?_)
      refine tP F rfl (fun wq => f_not rfl) rfl rfl rfl (fun ac F => ?_)
      refine tP F rfl (fun wq => f_move rfl) rfl rfl rfl (fun ac F => ?_)
      refine tP F rfl (fun wq => f_fieldAddr (r := ⟨g35, 0, none⟩) (sz := 0) rfl Tryd.underlying38 rfl Tryd.sizeOf3 rfl) rfl rfl rfl (fun ac F => ?_)
      refine tQ F rfl (fun wq hq => f_load1 (v := .int .i64 ((hold.getD k default).f)) rfl Tryd.isAgg3 (((hb37.keep hq (by simp)).cell 0).trans rfl)) rfl rfl rfl (fun ac F => ?_)
      refine tP F rfl (fun wq => f_fieldAddr (r := ⟨g3, 0, none⟩) (sz := 0) rfl Tryd.underlying32 rfl Tryd.sizeOf3 rfl) rfl rfl rfl (fun ac F => ?_)
      refine tQ F rfl (fun wq hq => f_load1 (v := .int .i64 me) rfl Tryd.isAgg3 (((hb5.keep hq (by simp)).cell 0).trans rfl)) rfl rfl rfl (fun ac F => ?_)
      refine tP F rfl (fun wq => f_eql rfl rfl) rfl rfl rfl (fun ac F => ?_)
      refine tP F rfl (fun wq => f_pickF rfl rfl) rfl rfl rfl (fun ac F => ?_)
      refine tP F rfl (fun wq => f_move rfl) rfl rfl rfl (fun ac F => ?_)
      have hc : ¬ ((hold.getD k default).f = me) := by exact (hV.at k hkk).2.1
      replace F := F.setb (k := 36) (b' := false) rfl (decide_eq_false hc)
      replace F := F.setb (k := 37) (b' := false) rfl (decide_eq_false hc)
      replace F := F.setb (k := 38) (b' := false) rfl (decide_eq_false hc)
      refine tP F rfl (fun wq => f_fieldAddr (r := ⟨g35, 0, none⟩) (sz := 0) rfl Tryd.underlying38 rfl Tryd.sizeOf3 rfl) rfl rfl rfl (fun ac F => ?_)
      refine tQ F rfl (fun wq hq => f_load1 (v := .int .i64 ((hold.getD k default).f)) rfl Tryd.isAgg3 (((hb37.keep hq (by simp)).cell 0).trans rfl)) rfl rfl rfl (fun ac F => ?_)
      refine tP F rfl (fun wq => f_fieldAddr (r := ⟨g35, 1, none⟩) (sz := 5) rfl Tryd.underlying38 rfl Tryd.sizeOf30 rfl) rfl rfl rfl (fun ac F => ?_)
      refine tP F rfl (fun wq => f_indexA (r := ⟨g35, 1 + (((hold.getD k default).f).toNat) * 1, none⟩) rfl rfl Tryd.underlying30 Tryd.sizeOf3 (by omega) (by omega) (add_eq (by omega))) rfl rfl rfl (fun ac F => ?_)
      refine tQ F rfl (fun wq hq => f_load1 (v := .int .i64 ((hold.getD k default).a (((hold.getD k default).f).toNat))) rfl Tryd.isAgg3 (((hb37.keep hq (by simp)).cell _).trans (six (o := 1) (q := 1 + (((hold.getD k default).f).toNat) * 1) (f := fun i_ => .int .i64 ((hold.getD k default).a i_)) rfl rfl rfl rfl rfl rfl (j := (((hold.getD k default).f).toNat)) (by omega) (by omega)))) rfl rfl rfl (fun ac F => ?_)
      refine tP F rfl (fun wq => f_fieldAddr (r := ⟨g35, 0, none⟩) (sz := 0) rfl Tryd.underlying38 rfl Tryd.sizeOf3 rfl) rfl rfl rfl (fun ac F => ?_)
      refine tQ F rfl (fun wq hq => f_load1 (v := .int .i64 ((hold.getD k default).f)) rfl Tryd.isAgg3 (((hb37.keep hq (by simp)).cell 0).trans rfl)) rfl rfl rfl (fun ac F => ?_)
      refine tP F rfl (fun wq => f_fieldAddr (r := ⟨g3, 1, none⟩) (sz := 5) rfl Tryd.underlying32 rfl Tryd.sizeOf30 rfl) rfl rfl rfl (fun ac F => ?_)
      refine tP F rfl (fun wq => f_indexA (r := ⟨g3, 1 + (((hold.getD k default).f).toNat) * 1, none⟩) rfl rfl Tryd.underlying30 Tryd.sizeOf3 (by omega) (by omega) (add_eq (by omega))) rfl rfl rfl (fun ac F => ?_)
      refine tQ F rfl (fun wq hq => f_load1 (v := .int .i64 (s (((hold.getD k default).f).toNat))) rfl Tryd.isAgg3 (((hb5.keep hq (by simp)).cell _).trans (six (o := 1) (q := 1 + (((hold.getD k default).f).toNat) * 1) (f := fun i_ => .int .i64 (s i_)) rfl rfl rfl rfl rfl rfl (j := (((hold.getD k default).f).toNat)) (by omega) (by omega)))) rfl rfl rfl (fun ac F => ?_)
      refine tP F rfl (fun wq => f_leq rfl rfl) rfl rfl rfl (fun ac F => ?_)
      refine tP F rfl (fun wq => f_pickF rfl rfl) rfl rfl rfl (fun ac F => ?_)
      refine tP F rfl (fun wq => f_move rfl) rfl rfl rfl (fun ac F => ?_)
      have hc : ¬ ((hold.getD k default).a (((hold.getD k default).f).toNat) ≤ s (((hold.getD k default).f).toNat)) := by have := (hV.at k hkk).2.2.1; omega
      replace F := F.setb (k := 49) (b' := false) rfl (decide_eq_false hc)
      replace F := F.setb (k := 50) (b' := false) rfl (decide_eq_false hc)
      replace F := F.setb (k := 51) (b' := false) rfl (decide_eq_false hc)
      refine tP F rfl (fun wq => f_fieldAddr (r := ⟨g3, 1, none⟩) (sz := 5) rfl Tryd.underlying32 rfl Tryd.sizeOf30 rfl) rfl rfl rfl (fun ac F => ?_)
      refine tQ F rfl (fun wq hq => f_loadN (vs := #[.int .i64 (s 0), .int .i64 (s 1), .int .i64 (s 2), .int .i64 (s 3), .int .i64 (s 4), .int .i64 (s 5)]) rfl Tryd.isAgg30 Tryd.sizeOf30 ((hb5.keep hq (by simp)).rd (o := 1) rfl (by intro j u hu; exact part_at (ps := [.int .i64 (s 0), .int .i64 (s 1), .int .i64 (s 2), .int .i64 (s 3), .int .i64 (s 4), .int .i64 (s 5)]) (by rfl) (by simpa [Value.cells] using hu)))) rfl rfl rfl (fun ac F => ?_)
      refine tQ F rfl (fun wq hq => f_loadN rfl Tryd.isAgg38 Tryd.sizeOf38 (hb37.keep hq (by simp)).rdAll) rfl rfl rfl (fun ac F => ?_)
      refine tC F rfl (fun wq => f_call (P := Tryd.prog) (f := 23) (vs := [.agg #[.int .i64 (s 0), .int .i64 (s 1), .int .i64 (s 2), .int .i64 (s 3), .int .i64 (s 4), .int .i64 (s 5)], .agg #[.int .i64 ((hold.getD k default).f), .int .i64 ((hold.getD k default).a 0), .int .i64 ((hold.getD k default).a 1), .int .i64 ((hold.getD k default).a 2), .int .i64 ((hold.getD k default).a 3), .int .i64 ((hold.getD k default).a 4), .int .i64 ((hold.getD k default).a 5), .string ((hold.getD k default).t)]]) rfl Tryd.call23) (fun wq hq => (bool_f (rdy_c s (hold.getD k default) _ hs) ((hV.at k hkk).2.2.2)).mono fun e w h => by cases e <;> first | exact ⟨h.1, hq.trans h.2 (by simp)⟩ | exact h.elim) rfl rfl rfl (fun ac F => ?_)
      refine tP F rfl (fun wq => f_pickF rfl rfl) rfl rfl rfl (fun ac F => ?_)
      refine tP F rfl (fun wq => f_move rfl) rfl rfl rfl (fun ac F => ?_)
      refine tP F rfl (fun wq => f_fieldAddr (r := ⟨g3, 7, none⟩) (sz := 0) rfl Tryd.underlying32 rfl Tryd.sizeOf28 rfl) rfl rfl rfl (fun ac F => ?_)
      refine tQ F rfl (fun wq hq => f_load1 (v := .slice A hold.length c) rfl Tryd.isAgg28 (((hb5.keep hq (by simp)).cell 7).trans rfl)) rfl rfl rfl (fun ac F => ?_)
      refine tP F rfl (fun wq => f_move rfl) rfl rfl rfl (fun ac F => ?_)
      have hle := hh.le
      refine tP F rfl (fun wq => f_sliceTo rfl rfl Tryd.underlying28 Tryd.sizeOf38 (by omega) (by omega)) rfl rfl rfl (fun ac F => ?_)
      replace F := F.setv (k := 61) (v' := .slice A k c) rfl (by rw [show (k : Int).toNat = k from by omega])
      refine tP F rfl (fun wq => f_makeFunc (vs := []) (us := [.pointer (some ⟨g35, 0, none⟩)]) rfl rfl) rfl rfl rfl (fun ac F => ?_)
      refine tC F rfl (fun wq => f_call (P := Tryd.prog) (f := 20) (vs := [.slice A k c, .func (.func 33) #[] #[.pointer (some ⟨g35, 0, none⟩)]]) rfl Tryd.call20) (fun wq hq => (bool_f (ixmb_c A k c 33 _ _ #[.pointer (some ⟨g35, 0, none⟩)] (fun i => Same (hold.getD i default) (hold.getD k default)) hold _ ((hh.keep hq (by simp)).take (by omega)) Tryd.call33 (fun W i hk hi => check2_c g35 (hold.getD i default) (hold.getD k default) W (hb37.keep (hq.trans hk (by simp)) (by simp)) (hV.rng i (by omega)) (hV.rng k (by omega))) (by omega)) (fun ⟨i, h1, h2⟩ => hV.two h1 hkk h2)).mono fun e w h => by cases e <;> first | exact ⟨h.1, hq.trans h.2 (by simp)⟩ | exact h.elim) rfl rfl rfl (fun ac F => ?_)
      refine tP F rfl (fun wq => f_pickF rfl rfl) rfl rfl rfl (fun ac F => ?_)
      refine tEnd (fun w46 hq => ?_)
      have hsz := hq.size
      replace hh := hh.keep hq (by simp)
      replace hb5 := hb5.keep hq (by simp)
      replace hb37 := hb37.keep hq (by simp)
      replace kp0 := kp0.trans hq (by simp)
      refine H45 _ _ ?_
      refine c_false F rfl ?_
      refine wp_skip ?_
      refine H32 _ _ ?_
      refine c_region ?_
      refine stp F (f_add (r := ((k + 1 : Nat) : Int)) rfl rfl (by rw [IntKind.wrap_i64]; omega)) rfl rfl rfl (fun ac F => ?_)
      refine stp F (f_move rfl) rfl rfl rfl (fun ac F => ?_)
      refine stpEnd ?_
      refine ⟨hold.length - (k + 1), ?_, (k + 1), F.sub ⟨rfl, rfl, rfl, rfl, trivial⟩, kp0, hh, hb5, by omega, rfl⟩
      omega
    · have hc := hc30
      replace F := F.setb (k := 24) (b' := false) rfl (decide_eq_false hc)
      clear hc
      refine c_false F rfl ?_
      refine wp_exit ?_
      refine H21 _ _ ?_
      refine c_seq (fun K47 H48 => ?_)
      refine c_region ?_
      refine stp F (f_assign rfl) rfl rfl rfl (fun ac F => ?_)
      refine stpEnd ?_
      refine H48 _ _ ?_
      refine wp_ret ?_
      refine ret1 F rfl rfl ?_
      exact ⟨rfl, kp0⟩

set_option maxHeartbeats 4000000 in
theorem clone_c (A : Option Addr) (c : Nat) (ms : List Ml) (w0 : World) (hh : Sl w0 0 w0.heap.size 8 A ms.length c (fun i => mlV (ms.getD i default))) (hn : ms.length ≤ 4294967296) : Calls Tryd.prog 34 #[.slice A ms.length c] w0 (Ret fun v w' => ∃ A' c', v = .slice A' ms.length c' ∧ Kp [] w0 w' ∧ Own w' w0.heap.size 38 8 A' c' (ms.map mlV) ∧ (ms = [] → c' = 0)) := by
  refine enter (n := 8) Tryd.func34 rfl rfl rfl (fun ac F => ?_)
  have kp0 := Kp.refl ([] : List Nat) w0
  refine c_seq (fun K1 H2 => ?_)
  refine c_region ?_
  refine stp F (f_assign rfl) rfl rfl rfl (fun ac F => ?_)
  refine stpEnd ?_
  refine H2 _ _ ?_
  refine c_seq (fun K3 H4 => ?_)
  refine c_seq (fun K5 H6 => ?_)
  refine c_region ?_
  refine stp F (f_move rfl) rfl rfl rfl (fun ac F => ?_)
  refine stp F (f_eqNil rfl Tryd.underlying28) rfl rfl rfl (fun ac F => ?_)
  refine stpEnd ?_
  refine H6 _ _ ?_
  by_cases hc7 : (Option.isNone A) = true
  · have hc := hc7
    replace F := F.setb (k := 4) (b' := true) rfl (hc)
    clear hc
    refine c_true F rfl ?_
    refine c_seq (fun K8 H9 => ?_)
    refine c_region ?_
    refine stp F (f_assign rfl) rfl rfl rfl (fun ac F => ?_)
    refine stpEnd ?_
    refine H9 _ _ ?_
    refine wp_ret ?_
    refine ret1 F rfl rfl ?_
    have hn0 : ms.length = 0 := by rcases Nat.eq_zero_or_pos ms.length with h | h; exact h; have := (hh.some_ h).1; rw [this] at hc7; cases hc7
    have hm0 : ms = [] := List.eq_nil_of_length_eq_zero hn0
    subst hm0
    exact ⟨none, 0, rfl, kp0, Own.nil _ _ _ _, fun _ => rfl⟩
  · have hc := hc7
    replace F := F.setb (k := 4) (b' := false) rfl (Bool.eq_false_iff.2 hc)
    clear hc
    refine c_false F rfl ?_
    refine wp_skip ?_
    refine H4 _ _ ?_
    refine c_seq (fun K10 H11 => ?_)
    refine c_region ?_
    refine stpE F (f_buildSlice (el := 38) (vs := []) (cs := []) rfl (fun w => by kernel_rfl)) rfl rfl rfl ?_
    rintro _ w13 ac ⟨g12, rfl, nb14⟩ F
    have n16 := nb14.num
    have z17 := nb14.size
    have hsz := (nb14.kp).size
    replace hh := hh.keep (nb14.kp) (by simp)
    replace kp0 := kp0.trans (nb14.kp) (by simp)
    have hb15 : Blk w13 g12 38 ([]) := nb14.blk
    refine stp F (f_move rfl) rfl rfl rfl (fun ac F => ?_)
    obtain ⟨ad, rfl⟩ : ∃ ad, A = some ad := Option.isSome_iff_exists.1 (by cases hA0 : A <;> simp_all)
    have hown : Own w13 w0.heap.size 38 8 (some ⟨g12, 0, none⟩) 0 [] := Own.of_blk0 hb15 (by omega)
    refine stpE F (FiresE.andp (f_appendN (sz := 8) (vs := []) (us := ms.map mlV) (bytes := 72) (z := mlV default) rfl (show evl _ _ = some (.slice (some ad) (ms.map mlV).length c) from by simp [evl, lk]) Tryd.underlying28 (i := Tryd.t38) (by kernel_rfl) (by kernel_rfl) rfl rfl rfl (by decide) hown (ml_rd hh) ml_one (by simp; omega) (by simp; omega) (by omega) (.inr rfl)) (fun hm0 : ms = [] => f_append0 rfl (show evl _ _ = some (.slice (some ad) 0 c) from by simp [evl, lk, hm0]) Tryd.underlying28 Tryd.sizeOf38 (Nat.le_refl _))) rfl rfl rfl ?_
    rintro _ w18 ac ⟨⟨A21, c22, rfl, ho19, kq20, hbl⟩, hz0⟩ F
    have hsz := kq20.size
    replace kp0 := kp0.trans kq20 (by intro x hx hl; have := hown.base_le x hx; omega)
    refine stp F (f_assign rfl) rfl rfl rfl (fun ac F => ?_)
    refine stpEnd ?_
    refine H11 _ _ ?_
    refine wp_ret ?_
    refine ret1 F rfl rfl ?_
    exact ⟨A21, c22, by simp, kp0, by simpa using ho19, fun hm0 => (by have := (hz0 hm0).1; injection this)⟩

set_option maxHeartbeats 4000000 in
theorem cclone_c (A : Option Addr) (c : Nat) (me : Int) (s : Nat → Int) (hold : List Ml) (w0 : World) (hh : Sl w0 0 w0.heap.size 8 A hold.length c (fun i => mlV (hold.getD i default))) (hn : hold.length ≤ 4294967296) : Calls Tryd.prog 17 #[.agg #[.int .i64 me, .int .i64 (s 0), .int .i64 (s 1), .int .i64 (s 2), .int .i64 (s 3), .int .i64 (s 4), .int .i64 (s 5), .slice A hold.length c]] w0 (Ret fun v w' => ∃ A' c', v = .agg #[.int .i64 me, .int .i64 (s 0), .int .i64 (s 1), .int .i64 (s 2), .int .i64 (s 3), .int .i64 (s 4), .int .i64 (s 5), .slice A' hold.length c'] ∧ Kp [] w0 w' ∧ Own w' w0.heap.size 38 8 A' c' (hold.map mlV) ∧ (hold = [] → c' = 0)) := by
  refine enter (n := 8) Tryd.func17 rfl rfl rfl (fun ac F => ?_)
  have kp0 := Kp.refl ([] : List Nat) w0
  refine c_seq (fun K1 H2 => ?_)
  refine c_region ?_
  refine stpE F (f_box (cs := [.int .i64 me, .int .i64 (s 0), .int .i64 (s 1), .int .i64 (s 2), .int .i64 (s 3), .int .i64 (s 4), .int .i64 (s 5), .slice A hold.length c]) rfl rfl) rfl rfl rfl ?_
  rintro _ w4 ac ⟨g3, rfl, nb6⟩ F
  have n7 := nb6.num
  have z8 := nb6.size
  have hsz := (nb6.kp).size
  replace hh := hh.keep (nb6.kp) (by simp)
  replace kp0 := kp0.trans (nb6.kp) (by simp)
  have hb5 : Blk w4 g3 32 ([.int .i64 me, .int .i64 (s 0), .int .i64 (s 1), .int .i64 (s 2), .int .i64 (s 3), .int .i64 (s 4), .int .i64 (s 5), .slice A hold.length c]) := nb6.blk
  refine stpE F (f_alloc (cs := [.int .i64 0, .int .i64 0, .int .i64 0, .int .i64 0, .int .i64 0, .int .i64 0, .int .i64 0, .slice none 0 0]) Tryd.zeroValue32 rfl) rfl rfl rfl ?_
  rintro _ w10 ac ⟨g9, rfl, nb12⟩ F
  have n13 := nb12.num
  have z14 := nb12.size
  have hsz := (nb12.kp).size
  replace hh := hh.keep (nb12.kp) (by simp)
  replace hb5 := hb5.keep (nb12.kp) (by simp)
  replace kp0 := kp0.trans (nb12.kp) (by simp)
  have hb11 : Blk w10 g9 32 ([.int .i64 0, .int .i64 0, .int .i64 0, .int .i64 0, .int .i64 0, .int .i64 0, .int .i64 0, .slice none 0 0]) := nb12.blk
  refine stpEnd ?_
  refine H2 _ _ ?_
  refine c_seq (fun K15 H16 => ?_)
  refine c_region ?_
  refine stp F (f_fieldAddr (r := ⟨g3, 7, none⟩) (sz := 0) rfl Tryd.underlying32 rfl Tryd.sizeOf28 rfl) rfl rfl rfl (fun ac F => ?_)
  refine stp F (f_load1 (v := .slice A hold.length c) rfl Tryd.isAgg28 ((hb5.cell 7).trans rfl)) rfl rfl rfl (fun ac F => ?_)
  refine stpC F (f_call (P := Tryd.prog) (f := 34) (vs := [.slice A hold.length c]) rfl Tryd.call34) (clone_c A c hold _ (hh.more (Nat.zero_le _) (by omega)) hn) rfl rfl rfl ?_
  rintro _ w17 ac ⟨A2, c2, rfl, kq18, ho, hc0⟩ F
  have hsz := (kq18).size
  replace hh := hh.keep (kq18) (by simp)
  replace hb5 := hb5.keep (kq18) (by simp)
  replace hb11 := hb11.keep (kq18) (by simp)
  replace kp0 := kp0.trans (kq18) (by simp)
  refine stp F (f_fieldAddr (r := ⟨g3, 7, none⟩) (sz := 0) rfl Tryd.underlying32 rfl Tryd.sizeOf28 rfl) rfl rfl rfl (fun ac F => ?_)
  refine stpW F (f_store (v := .slice A2 hold.length c2) (vs := [.slice A2 hold.length c2]) rfl rfl hb5 Tryd.sizeOf28 rfl rfl (by simp) (by simp [plainV])) rfl rfl ?_
  rintro w19 ac wr20 F
  have z21 := wr20.size
  have hsz := (wr20.kp).size
  replace hh := hh.keep (wr20.kp) (by intro x hx; simp at hx; omega)
  replace hb11 := hb11.keep (wr20.kp) (by have := hb11.lt; simp; omega)
  replace ho := ho.keep (wr20.kp) (by intro x hx hm; have h1 := ho.base_le x hx; (try have h2 := hob0 x hx); (try have h3 := hob1 x hx); simp at hm; omega)
  replace kp0 := kp0.trans (wr20.kp) (by intro x hx hl; simp at hx; omega)
  replace hb5 : Blk w19 g3 32 ([.int .i64 me, .int .i64 (s 0), .int .i64 (s 1), .int .i64 (s 2), .int .i64 (s 3), .int .i64 (s 4), .int .i64 (s 5), .slice A2 hold.length c2]) := wr20.blk
  refine stpEnd ?_
  refine H16 _ _ ?_
  refine c_seq (fun K22 H23 => ?_)
  refine c_region ?_
  refine stp F (f_loadN rfl Tryd.isAgg32 Tryd.sizeOf32 hb5.rdAll) rfl rfl rfl (fun ac F => ?_)
  refine stpW F (f_store (v := .agg #[.int .i64 me, .int .i64 (s 0), .int .i64 (s 1), .int .i64 (s 2), .int .i64 (s 3), .int .i64 (s 4), .int .i64 (s 5), .slice A2 hold.length c2]) (vs := [.int .i64 me, .int .i64 (s 0), .int .i64 (s 1), .int .i64 (s 2), .int .i64 (s 3), .int .i64 (s 4), .int .i64 (s 5), .slice A2 hold.length c2]) rfl rfl hb11 Tryd.sizeOf32 rfl rfl (by simp) (by simp [plainV])) rfl rfl ?_
  rintro w24 ac wr25 F
  have z26 := wr25.size
  have hsz := (wr25.kp).size
  replace hh := hh.keep (wr25.kp) (by intro x hx; simp at hx; omega)
  replace hb5 := hb5.keep (wr25.kp) (by have := hb5.lt; simp; omega)
  replace ho := ho.keep (wr25.kp) (by intro x hx hm; have h1 := ho.base_le x hx; (try have h2 := hob0 x hx); (try have h3 := hob1 x hx); simp at hm; omega)
  replace kp0 := kp0.trans (wr25.kp) (by intro x hx hl; simp at hx; omega)
  replace hb11 : Blk w24 g9 32 ([.int .i64 me, .int .i64 (s 0), .int .i64 (s 1), .int .i64 (s 2), .int .i64 (s 3), .int .i64 (s 4), .int .i64 (s 5), .slice A2 hold.length c2]) := wr25.blk
  refine stpEnd ?_
  refine H23 _ _ ?_
  refine wp_ret ?_
  refine retR1 F rfl ⟨_, rfl, run_loadVarN Tryd.isAgg32 Tryd.sizeOf32 hb11.rdAll⟩ ?_
  exact ⟨A2, c2, rfl, kp0, ho.more (by omega), hc0⟩

set_option maxHeartbeats 4000000 in
theorem cast_c (A : Option Addr) (c : Nat) (me : Int) (s : Nat → Int) (hold : List Ml) (tx : ByteArray) (w0 : World) (hh : Sl w0 0 w0.heap.size 8 A hold.length c (fun i => mlV (hold.getD i default))) (hV : Valid me s hold) : Calls Tryd.prog 11 #[.agg #[.int .i64 me, .int .i64 (s 0), .int .i64 (s 1), .int .i64 (s 2), .int .i64 (s 3), .int .i64 (s 4), .int .i64 (s 5), .slice A hold.length c], .string tx] w0 (Ret fun v w' => (s me.toNat < 16777215 ∧ ∃ A' c', v = .tuple #[.agg #[.int .i64 me, .int .i64 ((upd s me.toNat (s me.toNat + 1)) 0), .int .i64 ((upd s me.toNat (s me.toNat + 1)) 1), .int .i64 ((upd s me.toNat (s me.toNat + 1)) 2), .int .i64 ((upd s me.toNat (s me.toNat + 1)) 3), .int .i64 ((upd s me.toNat (s me.toNat + 1)) 4), .int .i64 ((upd s me.toNat (s me.toNat + 1)) 5), .slice A' hold.length c'], .agg #[.int .i64 me, .int .i64 ((upd s me.toNat (s me.toNat + 1)) 0), .int .i64 ((upd s me.toNat (s me.toNat + 1)) 1), .int .i64 ((upd s me.toNat (s me.toNat + 1)) 2), .int .i64 ((upd s me.toNat (s me.toNat + 1)) 3), .int .i64 ((upd s me.toNat (s me.toNat + 1)) 4), .int .i64 ((upd s me.toNat (s me.toNat + 1)) 5), .string tx], .int .i64 0] ∧ Kp [] w0 w' ∧ Own w' w0.heap.size 38 8 A' c' (hold.map mlV) ∧ (hold = [] → c' = 0)) ∨ (16777215 ≤ s me.toNat ∧ Kp [] w0 w' ∧ v = .tuple #[.agg #[.int .i64 0, .int .i64 0, .int .i64 0, .int .i64 0, .int .i64 0, .int .i64 0, .int .i64 0, .slice none 0 0], .agg #[.int .i64 0, .int .i64 0, .int .i64 0, .int .i64 0, .int .i64 0, .int .i64 0, .int .i64 0, .string ByteArray.empty], .int .i64 8])) := by
  refine enter (n := 41) Tryd.func11 rfl rfl rfl (fun ac F => ?_)
  have kp0 := Kp.refl ([] : List Nat) w0
  have hme := hV.hme
  have hs := hV.hs
  have h40 := hV.len
  have hsm := hs me.toNat (by omega)
  refine c_seq (fun K1 H2 => ?_)
  refine c_region ?_
  refine stpE F (f_box (cs := [.int .i64 me, .int .i64 (s 0), .int .i64 (s 1), .int .i64 (s 2), .int .i64 (s 3), .int .i64 (s 4), .int .i64 (s 5), .slice A hold.length c]) rfl rfl) rfl rfl rfl ?_
  rintro _ w4 ac ⟨g3, rfl, nb6⟩ F
  have n7 := nb6.num
  have z8 := nb6.size
  have hsz := (nb6.kp).size
  replace hh := hh.keep (nb6.kp) (by simp)
  replace kp0 := kp0.trans (nb6.kp) (by simp)
  have hb5 : Blk w4 g3 32 ([.int .i64 me, .int .i64 (s 0), .int .i64 (s 1), .int .i64 (s 2), .int .i64 (s 3), .int .i64 (s 4), .int .i64 (s 5), .slice A hold.length c]) := nb6.blk
  refine stpE F (f_alloc (cs := [.int .i64 0, .int .i64 0, .int .i64 0, .int .i64 0, .int .i64 0, .int .i64 0, .int .i64 0, .slice none 0 0]) Tryd.zeroValue32 rfl) rfl rfl rfl ?_
  rintro _ w10 ac ⟨g9, rfl, nb12⟩ F
  have n13 := nb12.num
  have z14 := nb12.size
  have hsz := (nb12.kp).size
  replace hh := hh.keep (nb12.kp) (by simp)
  replace hb5 := hb5.keep (nb12.kp) (by simp)
  replace kp0 := kp0.trans (nb12.kp) (by simp)
  have hb11 : Blk w10 g9 32 ([.int .i64 0, .int .i64 0, .int .i64 0, .int .i64 0, .int .i64 0, .int .i64 0, .int .i64 0, .slice none 0 0]) := nb12.blk
  refine stpE F (f_alloc (cs := [.int .i64 0, .int .i64 0, .int .i64 0, .int .i64 0, .int .i64 0, .int .i64 0, .int .i64 0, .string ByteArray.empty]) Tryd.zeroValue38 rfl) rfl rfl rfl ?_
  rintro _ w16 ac ⟨g15, rfl, nb18⟩ F
  have n19 := nb18.num
  have z20 := nb18.size
  have hsz := (nb18.kp).size
  replace hh := hh.keep (nb18.kp) (by simp)
  replace hb5 := hb5.keep (nb18.kp) (by simp)
  replace hb11 := hb11.keep (nb18.kp) (by simp)
  replace kp0 := kp0.trans (nb18.kp) (by simp)
  have hb17 : Blk w16 g15 38 ([.int .i64 0, .int .i64 0, .int .i64 0, .int .i64 0, .int .i64 0, .int .i64 0, .int .i64 0, .string ByteArray.empty]) := nb18.blk
  refine stp F (f_assign rfl) rfl rfl rfl (fun ac F => ?_)
  refine stpEnd ?_
  refine H2 _ _ ?_
  refine c_seq (fun K21 H22 => ?_)
  refine c_seq (fun K23 H24 => ?_)
  refine c_region ?_
  refine stp F (f_loadN rfl Tryd.isAgg32 Tryd.sizeOf32 hb5.rdAll) rfl rfl rfl (fun ac F => ?_)
  refine stpC F (f_call (P := Tryd.prog) (f := 16) (vs := [.agg #[.int .i64 me, .int .i64 (s 0), .int .i64 (s 1), .int .i64 (s 2), .int .i64 (s 3), .int .i64 (s 4), .int .i64 (s 5), .slice A hold.length c]]) rfl Tryd.call16) (check_c A c me s hold _ (hh.more (Nat.zero_le _) (by omega)) hV) rfl rfl rfl ?_
  rintro _ w25 ac ⟨rfl, kq26⟩ F
  have hsz := (kq26).size
  replace hh := hh.keep (kq26) (by simp)
  replace hb5 := hb5.keep (kq26) (by simp)
  replace hb11 := hb11.keep (kq26) (by simp)
  replace hb17 := hb17.keep (kq26) (by simp)
  replace kp0 := kp0.trans (kq26) (by simp)
  refine stp F (f_assign rfl) rfl rfl rfl (fun ac F => ?_)
  refine stpEnd ?_
  refine H24 _ _ ?_
  refine c_seq (fun K27 H28 => ?_)
  refine c_region ?_
  refine stp F (f_move rfl) rfl rfl rfl (fun ac F => ?_)
  refine stp F (f_neq rfl rfl) rfl rfl rfl (fun ac F => ?_)
  refine stpEnd ?_
  refine H28 _ _ ?_
  have hc : (0 : Int) = 0 := by rfl
  replace F := F.setb (k := 12) (b' := false) rfl (nt (decide_eq_true hc))
  refine c_false F rfl ?_
  refine wp_skip ?_
  refine H22 _ _ ?_
  refine c_seq (fun K29 H30 => ?_)
  refine c_seq (fun K31 H32 => ?_)
  refine c_region ?_
  refine stp F (f_fieldAddr (r := ⟨g3, 0, none⟩) (sz := 0) rfl Tryd.underlying32 rfl Tryd.sizeOf3 rfl) rfl rfl rfl (fun ac F => ?_)
  refine stp F (f_load1 (v := .int .i64 me) rfl Tryd.isAgg3 ((hb5.cell 0).trans rfl)) rfl rfl rfl (fun ac F => ?_)
  refine stp F (f_fieldAddr (r := ⟨g3, 1, none⟩) (sz := 5) rfl Tryd.underlying32 rfl Tryd.sizeOf30 rfl) rfl rfl rfl (fun ac F => ?_)
  refine stp F (f_indexA (r := ⟨g3, 1 + me.toNat * 1, none⟩) rfl rfl Tryd.underlying30 Tryd.sizeOf3 (by omega) (by omega) (add_eq (by omega))) rfl rfl rfl (fun ac F => ?_)
  refine stp F (f_load1 (v := .int .i64 (s me.toNat)) rfl Tryd.isAgg3 ((hb5.cell _).trans (six (o := 1) (q := 1 + me.toNat * 1) (f := fun i_ => .int .i64 (s i_)) rfl rfl rfl rfl rfl rfl (j := me.toNat) (by omega) (by omega)))) rfl rfl rfl (fun ac F => ?_)
  refine stp F (f_geq rfl rfl) rfl rfl rfl (fun ac F => ?_)
  refine stpEnd ?_
  refine H32 _ _ ?_
  by_cases hc33 : 16777215 ≤ s me.toNat
  · have hc := hc33
    replace F := F.setb (k := 21) (b' := true) rfl (decide_eq_true hc)
    clear hc
    refine c_true F rfl ?_
    refine c_seq (fun K34 H35 => ?_)
    refine c_region ?_
    refine stp F (f_build (vs := []) (v := .agg #[.int .i64 0, .int .i64 0, .int .i64 0, .int .i64 0, .int .i64 0, .int .i64 0, .int .i64 0, .slice none 0 0]) rfl (fun w => by kernel_rfl)) rfl rfl rfl (fun ac F => ?_)
    refine stp F (f_build (vs := []) (v := .agg #[.int .i64 0, .int .i64 0, .int .i64 0, .int .i64 0, .int .i64 0, .int .i64 0, .int .i64 0, .string ByteArray.empty]) rfl (fun w => by kernel_rfl)) rfl rfl rfl (fun ac F => ?_)
    refine stpW F (f_store (v := .agg #[.int .i64 0, .int .i64 0, .int .i64 0, .int .i64 0, .int .i64 0, .int .i64 0, .int .i64 0, .slice none 0 0]) (vs := [.int .i64 0, .int .i64 0, .int .i64 0, .int .i64 0, .int .i64 0, .int .i64 0, .int .i64 0, .slice none 0 0]) rfl rfl hb11 Tryd.sizeOf32 rfl rfl (by simp) (by simp [plainV])) rfl rfl ?_
    rintro w36 ac wr37 F
    have z38 := wr37.size
    have hsz := (wr37.kp).size
    replace hh := hh.keep (wr37.kp) (by intro x hx; simp at hx; omega)
    replace hb5 := hb5.keep (wr37.kp) (by have := hb5.lt; simp; omega)
    replace hb17 := hb17.keep (wr37.kp) (by have := hb17.lt; simp; omega)
    replace kp0 := kp0.trans (wr37.kp) (by intro x hx hl; simp at hx; omega)
    replace hb11 : Blk w36 g9 32 ([.int .i64 0, .int .i64 0, .int .i64 0, .int .i64 0, .int .i64 0, .int .i64 0, .int .i64 0, .slice none 0 0]) := wr37.blk
    refine stpW F (f_store (v := .agg #[.int .i64 0, .int .i64 0, .int .i64 0, .int .i64 0, .int .i64 0, .int .i64 0, .int .i64 0, .string ByteArray.empty]) (vs := [.int .i64 0, .int .i64 0, .int .i64 0, .int .i64 0, .int .i64 0, .int .i64 0, .int .i64 0, .string ByteArray.empty]) rfl rfl hb17 Tryd.sizeOf38 rfl rfl (by simp) (by simp [plainV])) rfl rfl ?_
    rintro w39 ac wr40 F
    have z41 := wr40.size
    have hsz := (wr40.kp).size
    replace hh := hh.keep (wr40.kp) (by intro x hx; simp at hx; omega)
    replace hb5 := hb5.keep (wr40.kp) (by have := hb5.lt; simp; omega)
    replace hb11 := hb11.keep (wr40.kp) (by have := hb11.lt; simp; omega)
    replace kp0 := kp0.trans (wr40.kp) (by intro x hx hl; simp at hx; omega)
    replace hb17 : Blk w39 g15 38 ([.int .i64 0, .int .i64 0, .int .i64 0, .int .i64 0, .int .i64 0, .int .i64 0, .int .i64 0, .string ByteArray.empty]) := wr40.blk
    refine stp F (f_assign rfl) rfl rfl rfl (fun ac F => ?_)
    refine stpEnd ?_
    refine H35 _ _ ?_
    refine wp_ret ?_
    refine retR3 F rfl ⟨_, rfl, run_loadVarN Tryd.isAgg32 Tryd.sizeOf32 hb11.rdAll⟩ ⟨_, rfl, run_loadVarN Tryd.isAgg38 Tryd.sizeOf38 hb17.rdAll⟩ rfl ?_
    exact .inr ⟨hc33, kp0, rfl⟩
  · have hc := hc33
    replace F := F.setb (k := 21) (b' := false) rfl (decide_eq_false hc)
    clear hc
    refine c_false F rfl ?_
    refine wp_skip ?_
    refine H30 _ _ ?_
    refine c_seq (fun K42 H43 => ?_)
    refine c_region ?_
    refine stp F (f_loadN rfl Tryd.isAgg32 Tryd.sizeOf32 hb5.rdAll) rfl rfl rfl (fun ac F => ?_)
    refine stpC F (f_call (P := Tryd.prog) (f := 17) (vs := [.agg #[.int .i64 me, .int .i64 (s 0), .int .i64 (s 1), .int .i64 (s 2), .int .i64 (s 3), .int .i64 (s 4), .int .i64 (s 5), .slice A hold.length c]]) rfl Tryd.call17) (cclone_c A c me s hold _ (hh.more (Nat.zero_le _) (by omega)) (by omega)) rfl rfl rfl ?_
    rintro _ w44 ac ⟨A2, c2, rfl, kq45, ho, hc0⟩ F
    have hsz := (kq45).size
    replace hh := hh.keep (kq45) (by simp)
    replace hb5 := hb5.keep (kq45) (by simp)
    replace hb11 := hb11.keep (kq45) (by simp)
    replace hb17 := hb17.keep (kq45) (by simp)
    replace kp0 := kp0.trans (kq45) (by simp)
    have hob0 := ho.base_le
    refine stpE F (f_alloc (cs := [.int .i64 0, .int .i64 0, .int .i64 0, .int .i64 0, .int .i64 0, .int .i64 0, .int .i64 0, .slice none 0 0]) Tryd.zeroValue32 rfl) rfl rfl rfl ?_
    rintro _ w47 ac ⟨g46, rfl, nb49⟩ F
    have n50 := nb49.num
    have z51 := nb49.size
    have hsz := (nb49.kp).size
    replace hh := hh.keep (nb49.kp) (by simp)
    replace hb5 := hb5.keep (nb49.kp) (by simp)
    replace hb11 := hb11.keep (nb49.kp) (by simp)
    replace hb17 := hb17.keep (nb49.kp) (by simp)
    replace ho := ho.keep (nb49.kp) (by simp)
    replace kp0 := kp0.trans (nb49.kp) (by simp)
    have hb48 : Blk w47 g46 32 ([.int .i64 0, .int .i64 0, .int .i64 0, .int .i64 0, .int .i64 0, .int .i64 0, .int .i64 0, .slice none 0 0]) := nb49.blk
    refine stpW F (f_store (v := .agg #[.int .i64 me, .int .i64 (s 0), .int .i64 (s 1), .int .i64 (s 2), .int .i64 (s 3), .int .i64 (s 4), .int .i64 (s 5), .slice A2 hold.length c2]) (vs := [.int .i64 me, .int .i64 (s 0), .int .i64 (s 1), .int .i64 (s 2), .int .i64 (s 3), .int .i64 (s 4), .int .i64 (s 5), .slice A2 hold.length c2]) rfl rfl hb48 Tryd.sizeOf32 rfl rfl (by simp) (by simp [plainV])) rfl rfl ?_
    rintro w52 ac wr53 F
    have z54 := wr53.size
    have hsz := (wr53.kp).size
    replace hh := hh.keep (wr53.kp) (by intro x hx; simp at hx; omega)
    replace hb5 := hb5.keep (wr53.kp) (by have := hb5.lt; simp; omega)
    replace hb11 := hb11.keep (wr53.kp) (by have := hb11.lt; simp; omega)
    replace hb17 := hb17.keep (wr53.kp) (by have := hb17.lt; simp; omega)
    replace ho := ho.keep (wr53.kp) (by intro x hx hm; have h1 := ho.base_le x hx; (try have h2 := hob0 x hx); (try have h3 := hob1 x hx); simp at hm; omega)
    replace kp0 := kp0.trans (wr53.kp) (by intro x hx hl; simp at hx; omega)
    replace hb48 : Blk w52 g46 32 ([.int .i64 me, .int .i64 (s 0), .int .i64 (s 1), .int .i64 (s 2), .int .i64 (s 3), .int .i64 (s 4), .int .i64 (s 5), .slice A2 hold.length c2]) := wr53.blk
    refine stpEnd ?_
    refine H43 _ _ ?_
    refine c_seq (fun K55 H56 => ?_)
    refine c_region ?_
    refine stp F (f_fieldAddr (r := ⟨g3, 0, none⟩) (sz := 0) rfl Tryd.underlying32 rfl Tryd.sizeOf3 rfl) rfl rfl rfl (fun ac F => ?_)
    refine stp F (f_load1 (v := .int .i64 me) rfl Tryd.isAgg3 ((hb5.cell 0).trans rfl)) rfl rfl rfl (fun ac F => ?_)
    refine stp F (f_fieldAddr (r := ⟨g46, 1, none⟩) (sz := 5) rfl Tryd.underlying32 rfl Tryd.sizeOf30 rfl) rfl rfl rfl (fun ac F => ?_)
    refine stp F (f_indexA (r := ⟨g46, 1 + me.toNat * 1, none⟩) rfl rfl Tryd.underlying30 Tryd.sizeOf3 (by omega) (by omega) (add_eq (by omega))) rfl rfl rfl (fun ac F => ?_)
    refine stp F (f_load1 (v := .int .i64 (s me.toNat)) rfl Tryd.isAgg3 ((hb48.cell _).trans (six (o := 1) (q := 1 + me.toNat * 1) (f := fun i_ => .int .i64 (s i_)) rfl rfl rfl rfl rfl rfl (j := me.toNat) (by omega) (by omega)))) rfl rfl rfl (fun ac F => ?_)
    refine stp F (f_add (r := (s me.toNat) + 1) rfl rfl (by rw [IntKind.wrap_i64]; omega)) rfl rfl rfl (fun ac F => ?_)
    refine stp F (f_fieldAddr (r := ⟨g46, 1, none⟩) (sz := 5) rfl Tryd.underlying32 rfl Tryd.sizeOf30 rfl) rfl rfl rfl (fun ac F => ?_)
    refine stp F (f_indexA (r := ⟨g46, 1 + me.toNat * 1, none⟩) rfl rfl Tryd.underlying30 Tryd.sizeOf3 (by omega) (by omega) (add_eq (by omega))) rfl rfl rfl (fun ac F => ?_)
    refine stpW F (f_store (v := .int .i64 ((s me.toNat) + 1)) (vs := [.int .i64 ((s me.toNat) + 1)]) rfl rfl hb48 Tryd.sizeOf3 rfl rfl (by simp; omega) (by simp [plainV])) rfl rfl ?_
    rintro w57 ac wr58 F
    have z59 := wr58.size
    have hsz := (wr58.kp).size
    replace hh := hh.keep (wr58.kp) (by intro x hx; simp at hx; omega)
    replace hb5 := hb5.keep (wr58.kp) (by have := hb5.lt; simp; omega)
    replace hb11 := hb11.keep (wr58.kp) (by have := hb11.lt; simp; omega)
    replace hb17 := hb17.keep (wr58.kp) (by have := hb17.lt; simp; omega)
    replace ho := ho.keep (wr58.kp) (by intro x hx hm; have h1 := ho.base_le x hx; (try have h2 := hob0 x hx); (try have h3 := hob1 x hx); simp at hm; omega)
    replace kp0 := kp0.trans (wr58.kp) (by intro x hx hl; simp at hx; omega)
    replace hb48 : Blk w57 g46 32 ([.int .i64 me, .int .i64 ((upd s me.toNat ((s me.toNat) + 1)) 0), .int .i64 ((upd s me.toNat ((s me.toNat) + 1)) 1), .int .i64 ((upd s me.toNat ((s me.toNat) + 1)) 2), .int .i64 ((upd s me.toNat ((s me.toNat) + 1)) 3), .int .i64 ((upd s me.toNat ((s me.toNat) + 1)) 4), .int .i64 ((upd s me.toNat ((s me.toNat) + 1)) 5), .slice A2 hold.length c2]) := (by have hx_ := wr58.blk; rw [csC_put (me := me) (s := s) (A := A2) (n := hold.length) (c := c2) (j := me.toNat) (by omega) (by omega)] at hx_; exact hx_)
    refine stpEnd ?_
    refine H56 _ _ ?_
    refine c_seq (fun K60 H61 => ?_)
    have lt_hb5 := hb5.lt
    have lt_hb11 := hb11.lt
    have lt_hb17 := hb17.lt
    have lt_hb48 := hb48.lt
    refine c_drawH [0, 1, 2, 3, 4, 5, 6, 7] [8, 9] (fun i => [.quiet, .pure, .quiet, .pure, .quiet, .pure, .pure, .big, .own, .pure].getD i .pure) ([g9] : List Nat) w57.heap.size (by intro x hx; simp at hx; omega) (by rfl) (by decide +kernel) (fun wx => Kp [g9] w57 wx) (fun wx => Kp [g9] w57 wx ∧ Blk wx g9 32 ([.int .i64 0, .int .i64 0, .int .i64 0, .int .i64 0, .int .i64 0, .int .i64 0, .int .i64 0, .slice none 0 0])) (⟨fun wa wb hC_ kk => by obtain ⟨hq, hb11⟩ := hC_; exact ⟨hq.trans kk (by simp), hb11.keep kk (by simp)⟩, fun wa hC_ => hC_.1.size⟩) (⟨Kp.mono (Kp.drew _) (by simp), hb11.keep (Kp.drew _) (by simp)⟩) ?_
    refine gQ F rfl (fun wq hq => f_loadN rfl Tryd.isAgg32 Tryd.sizeOf32 (hb48.keep hq (by have := hb48.lt; simp; omega)).rdAll) (fun _ h => h.1) rfl rfl rfl (fun ac F => ?_)
    refine gP F rfl (fun wq => f_fieldAddr (r := ⟨g3, 0, none⟩) (sz := 0) rfl Tryd.underlying32 rfl Tryd.sizeOf3 rfl) rfl rfl rfl (fun ac F => ?_)
    refine gQ F rfl (fun wq hq => f_load1 (v := .int .i64 me) rfl Tryd.isAgg3 (((hb5.keep hq (by have := hb5.lt; simp; omega)).cell 0).trans rfl)) (fun _ h => h.1) rfl rfl rfl (fun ac F => ?_)
    refine gP F rfl (fun wq => f_fieldAddr (r := ⟨g46, 1, none⟩) (sz := 5) rfl Tryd.underlying32 rfl Tryd.sizeOf30 rfl) rfl rfl rfl (fun ac F => ?_)
    refine gQ F rfl (fun wq hq => f_loadN (vs := #[.int .i64 ((upd s me.toNat ((s me.toNat) + 1)) 0), .int .i64 ((upd s me.toNat ((s me.toNat) + 1)) 1), .int .i64 ((upd s me.toNat ((s me.toNat) + 1)) 2), .int .i64 ((upd s me.toNat ((s me.toNat) + 1)) 3), .int .i64 ((upd s me.toNat ((s me.toNat) + 1)) 4), .int .i64 ((upd s me.toNat ((s me.toNat) + 1)) 5)]) rfl Tryd.isAgg30 Tryd.sizeOf30 ((hb48.keep hq (by have := hb48.lt; simp; omega)).rd (o := 1) rfl (by intro j u hu; exact part_at (ps := [.int .i64 ((upd s me.toNat ((s me.toNat) + 1)) 0), .int .i64 ((upd s me.toNat ((s me.toNat) + 1)) 1), .int .i64 ((upd s me.toNat ((s me.toNat) + 1)) 2), .int .i64 ((upd s me.toNat ((s me.toNat) + 1)) 3), .int .i64 ((upd s me.toNat ((s me.toNat) + 1)) 4), .int .i64 ((upd s me.toNat ((s me.toNat) + 1)) 5)]) (by rfl) (by simpa [Value.cells] using hu)))) (fun _ h => h.1) rfl rfl rfl (fun ac F => ?_)
    refine gP F rfl (fun wq => f_move rfl) rfl rfl rfl (fun ac F => ?_)
    refine gP F rfl (fun wq => f_build (vs := [(0, .int .i64 me), (1, .agg #[.int .i64 ((upd s me.toNat ((s me.toNat) + 1)) 0), .int .i64 ((upd s me.toNat ((s me.toNat) + 1)) 1), .int .i64 ((upd s me.toNat ((s me.toNat) + 1)) 2), .int .i64 ((upd s me.toNat ((s me.toNat) + 1)) 3), .int .i64 ((upd s me.toNat ((s me.toNat) + 1)) 4), .int .i64 ((upd s me.toNat ((s me.toNat) + 1)) 5)]), (2, .string tx)]) (v := .agg #[.int .i64 me, .int .i64 ((upd s me.toNat ((s me.toNat) + 1)) 0), .int .i64 ((upd s me.toNat ((s me.toNat) + 1)) 1), .int .i64 ((upd s me.toNat ((s me.toNat) + 1)) 2), .int .i64 ((upd s me.toNat ((s me.toNat) + 1)) 3), .int .i64 ((upd s me.toNat ((s me.toNat) + 1)) 4), .int .i64 ((upd s me.toNat ((s me.toNat) + 1)) 5), .string tx]) rfl (fun w => by kernel_rfl)) rfl rfl rfl (fun ac F => ?_)
    refine gS (gb := g9) F rfl (by simp) (fun wx => Kp [g9] w57 wx ∧ Blk wx g9 32 ([.int .i64 me, .int .i64 ((upd s me.toNat ((s me.toNat) + 1)) 0), .int .i64 ((upd s me.toNat ((s me.toNat) + 1)) 1), .int .i64 ((upd s me.toNat ((s me.toNat) + 1)) 2), .int .i64 ((upd s me.toNat ((s me.toNat) + 1)) 3), .int .i64 ((upd s me.toNat ((s me.toNat) + 1)) 4), .int .i64 ((upd s me.toNat ((s me.toNat) + 1)) 5), .slice A2 hold.length c2])) (fun wq hC_ => by obtain ⟨hq, hb11⟩ := hC_; exact f_store (v := .agg #[.int .i64 me, .int .i64 ((upd s me.toNat ((s me.toNat) + 1)) 0), .int .i64 ((upd s me.toNat ((s me.toNat) + 1)) 1), .int .i64 ((upd s me.toNat ((s me.toNat) + 1)) 2), .int .i64 ((upd s me.toNat ((s me.toNat) + 1)) 3), .int .i64 ((upd s me.toNat ((s me.toNat) + 1)) 4), .int .i64 ((upd s me.toNat ((s me.toNat) + 1)) 5), .slice A2 hold.length c2]) (vs := [.int .i64 me, .int .i64 ((upd s me.toNat ((s me.toNat) + 1)) 0), .int .i64 ((upd s me.toNat ((s me.toNat) + 1)) 1), .int .i64 ((upd s me.toNat ((s me.toNat) + 1)) 2), .int .i64 ((upd s me.toNat ((s me.toNat) + 1)) 3), .int .i64 ((upd s me.toNat ((s me.toNat) + 1)) 4), .int .i64 ((upd s me.toNat ((s me.toNat) + 1)) 5), .slice A2 hold.length c2]) rfl rfl hb11 Tryd.sizeOf32 rfl rfl (by simp) (by simp [plainV])) (⟨fun wa wb hC_ kk => by obtain ⟨hq, hb11⟩ := hC_; exact ⟨hq.trans kk (by simp), hb11.keep kk (by simp)⟩, fun wa hC_ => hC_.1.size⟩) (fun _ h => h.1) (fun wa wb hC_ wr_ => by obtain ⟨hq, hb11⟩ := hC_; exact ⟨(hq.mono (by intro x hx _; first | exact hx | simp [hx] | simp at hx)).trans wr_.kp (by intro x hx hl; simp at hx; first | omega | simp [hx]), wr_.blk⟩) rfl rfl (fun ac F => ?_)
    refine gEnd (fun w64 hq => ?_)
    obtain ⟨hq, hn_hb11⟩ := hq
    have hsz := hq.size
    replace hh := hh.keep hq (by intro x hx; simp at hx; omega)
    replace hb5 := hb5.keep hq (by have := hb5.lt; simp; omega)
    replace hb17 := hb17.keep hq (by have := hb17.lt; simp; omega)
    replace ho := ho.keep hq (by intro x hx hm; have h1 := ho.base_le x hx; (try have h2 := hob0 x hx); (try have h3 := hob1 x hx); simp at hm; omega)
    replace hb48 := hb48.keep hq (by have := hb48.lt; simp; omega)
    replace kp0 := kp0.trans hq (by intro x hx hl; simp at hx; omega)
    replace hb11 : Blk w64 g9 32 ([.int .i64 me, .int .i64 ((upd s me.toNat ((s me.toNat) + 1)) 0), .int .i64 ((upd s me.toNat ((s me.toNat) + 1)) 1), .int .i64 ((upd s me.toNat ((s me.toNat) + 1)) 2), .int .i64 ((upd s me.toNat ((s me.toNat) + 1)) 3), .int .i64 ((upd s me.toNat ((s me.toNat) + 1)) 4), .int .i64 ((upd s me.toNat ((s me.toNat) + 1)) 5), .slice A2 hold.length c2]) := hn_hb11
    refine stpW F (f_store (v := .agg #[.int .i64 me, .int .i64 ((upd s me.toNat ((s me.toNat) + 1)) 0), .int .i64 ((upd s me.toNat ((s me.toNat) + 1)) 1), .int .i64 ((upd s me.toNat ((s me.toNat) + 1)) 2), .int .i64 ((upd s me.toNat ((s me.toNat) + 1)) 3), .int .i64 ((upd s me.toNat ((s me.toNat) + 1)) 4), .int .i64 ((upd s me.toNat ((s me.toNat) + 1)) 5), .string tx]) (vs := [.int .i64 me, .int .i64 ((upd s me.toNat ((s me.toNat) + 1)) 0), .int .i64 ((upd s me.toNat ((s me.toNat) + 1)) 1), .int .i64 ((upd s me.toNat ((s me.toNat) + 1)) 2), .int .i64 ((upd s me.toNat ((s me.toNat) + 1)) 3), .int .i64 ((upd s me.toNat ((s me.toNat) + 1)) 4), .int .i64 ((upd s me.toNat ((s me.toNat) + 1)) 5), .string tx]) rfl rfl hb17 Tryd.sizeOf38 rfl rfl (by simp) (by simp [plainV])) rfl rfl ?_
    rintro w65 ac wr66 F
    have z67 := wr66.size
    have hsz := (wr66.kp).size
    replace hh := hh.keep (wr66.kp) (by intro x hx; simp at hx; omega)
    replace hb5 := hb5.keep (wr66.kp) (by have := hb5.lt; simp; omega)
    replace hb11 := hb11.keep (wr66.kp) (by have := hb11.lt; simp; omega)
    replace ho := ho.keep (wr66.kp) (by intro x hx hm; have h1 := ho.base_le x hx; (try have h2 := hob0 x hx); (try have h3 := hob1 x hx); simp at hm; omega)
    replace hb48 := hb48.keep (wr66.kp) (by have := hb48.lt; simp; omega)
    replace kp0 := kp0.trans (wr66.kp) (by intro x hx hl; simp at hx; omega)
    replace hb17 : Blk w65 g15 38 ([.int .i64 me, .int .i64 ((upd s me.toNat ((s me.toNat) + 1)) 0), .int .i64 ((upd s me.toNat ((s me.toNat) + 1)) 1), .int .i64 ((upd s me.toNat ((s me.toNat) + 1)) 2), .int .i64 ((upd s me.toNat ((s me.toNat) + 1)) 3), .int .i64 ((upd s me.toNat ((s me.toNat) + 1)) 4), .int .i64 ((upd s me.toNat ((s me.toNat) + 1)) 5), .string tx]) := wr66.blk
    refine stp F (f_assign rfl) rfl rfl rfl (fun ac F => ?_)
    refine stpEnd ?_
    refine H61 _ _ ?_
    refine wp_ret ?_
    refine retR3 F rfl ⟨_, rfl, run_loadVarN Tryd.isAgg32 Tryd.sizeOf32 hb11.rdAll⟩ ⟨_, rfl, run_loadVarN Tryd.isAgg38 Tryd.sizeOf38 hb17.rdAll⟩ rfl ?_
    exact .inl ⟨by omega, A2, c2, rfl, kp0, ho.more (by omega), hc0⟩

set_option maxHeartbeats 4000000 in
theorem rest_c (x n : Int) (w0 : World) (hx : -9223372036854775808 ≤ x ∧ x ≤ 9223372036854775807) (hn : n ≤ 4611686018427387904) : Calls Tryd.prog 7 #[.int .i64 x, .int .i64 n] w0 (Ret fun v w' => v = .int .i64 (restN x n) ∧ Kp [] w0 w') := by
  refine enter (n := 14) Tryd.func7 rfl rfl rfl (fun ac F => ?_)
  have kp0 := Kp.refl ([] : List Nat) w0
  refine c_seq (fun K1 H2 => ?_)
  refine c_region ?_
  refine stp F (f_assign rfl) rfl rfl rfl (fun ac F => ?_)
  refine stpEnd ?_
  refine H2 _ _ ?_
  refine c_seq (fun K3 H4 => ?_)
  refine c_seq (fun K5 H6 => ?_)
  refine c_region ?_
  refine stp F (f_move rfl) rfl rfl rfl (fun ac F => ?_)
  refine stp F (f_leq rfl rfl) rfl rfl rfl (fun ac F => ?_)
  refine stpEnd ?_
  refine H6 _ _ ?_
  by_cases hc7 : n ≤ 0
  · have hc := hc7
    replace F := F.setb (k := 6) (b' := true) rfl (decide_eq_true hc)
    clear hc
    refine c_true F rfl ?_
    refine c_seq (fun K8 H9 => ?_)
    refine c_region ?_
    refine stp F (f_assign rfl) rfl rfl rfl (fun ac F => ?_)
    refine stpEnd ?_
    refine H9 _ _ ?_
    refine wp_ret ?_
    refine ret1 F rfl rfl ?_
    exact ⟨by rw [restN, if_neg (by omega)], kp0⟩
  · have hc := hc7
    replace F := F.setb (k := 6) (b' := false) rfl (decide_eq_false hc)
    clear hc
    refine c_false F rfl ?_
    refine wp_skip ?_
    refine H4 _ _ ?_
    refine c_seq (fun K10 H11 => ?_)
    have hr := rest_b x n (by omega)
    refine c_region ?_
    refine stp F (f_move rfl) rfl rfl rfl (fun ac F => ?_)
    refine stp F (f_move rfl) rfl rfl rfl (fun ac F => ?_)
    refine stp F (f_rem (r := x.tmod n) rfl rfl (by omega) rfl) rfl rfl rfl (fun ac F => ?_)
    refine stp F (f_move rfl) rfl rfl rfl (fun ac F => ?_)
    refine stp F (f_add (r := (x.tmod n) + n) rfl rfl (by rw [IntKind.wrap_i64]; omega)) rfl rfl rfl (fun ac F => ?_)
    refine stp F (f_move rfl) rfl rfl rfl (fun ac F => ?_)
    refine stp F (f_rem (r := ((x.tmod n) + n).tmod n) rfl rfl (by omega) rfl) rfl rfl rfl (fun ac F => ?_)
    refine stp F (f_assign rfl) rfl rfl rfl (fun ac F => ?_)
    refine stpEnd ?_
    refine H11 _ _ ?_
    refine wp_ret ?_
    refine ret1 F rfl rfl ?_
    exact ⟨by rw [restN, if_pos (by omega)], kp0⟩

end Go.Proofs.YtkbngaollbmcbaaDoor.KK
