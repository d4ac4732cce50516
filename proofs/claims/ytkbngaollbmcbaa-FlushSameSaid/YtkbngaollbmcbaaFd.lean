/- What the proof leans on: rules for a walk through the code, walks of functions, and plain laws. No condition. -/
import Derived.Test.YtkbngaollbmcbaaFb
import Derived.Test.YtkbngaollbmcbaaFm

namespace Go.Proofs.Ytkbngaollbmcbaa.KK
open Go Go.RowKit

set_option maxHeartbeats 4000000 in
theorem change_c (num : Int) (mem gone come : Nat) (R : Nat → Ri) (w0 : World) (hmem : mem < 256) (hgone : gone < 256) (hcome : come < 256) (hnum : -9223372036854775808 ≤ num ∧ num ≤ 9223372036854775807) (hS : ∀ p : Nat, p < 6 → Sl w0 0 w0.heap.size 1 (R p).A (R p).l.length (R p).c (nvv (R p).l)) : Calls Try.prog 31 #[.agg #[.int .i64 num, .int .u8 (mem : Int), .int .u8 (gone : Int), .slice ((R 0).A) ((R 0).l.length) ((R 0).c), .slice ((R 1).A) ((R 1).l.length) ((R 1).c), .slice ((R 2).A) ((R 2).l.length) ((R 2).c), .slice ((R 3).A) ((R 3).l.length) ((R 3).c), .slice ((R 4).A) ((R 4).l.length) ((R 4).c), .slice ((R 5).A) ((R 5).l.length) ((R 5).c)], .int .u8 (come : Int)] w0 (Ret fun v w' => (∃ e : Int, e ≠ 0 ∧ (OkF num mem gone (fun p => (R p).l) → (nextR num mem gone come).e ≠ 0) ∧ v = .tuple #[.agg #[.int .i64 0, .int .u8 0, .int .u8 0, .slice none 0 0, .slice none 0 0, .slice none 0 0, .slice none 0 0, .slice none 0 0, .slice none 0 0], .agg #[.slice none 0 0, .slice none 0 0, .slice none 0 0, .slice none 0 0, .slice none 0 0, .slice none 0 0], .int .i64 e] ∧ Kp [] w0 w') ∨ (OkF num mem gone (fun p => (R p).l) ∧ (nextR num mem gone come).e = 0 ∧ ∃ Q : Nat → Ri, v = .tuple #[.agg #[.int .i64 (nextR num mem gone come).num, .int .u8 ((nextR num mem gone come).mem : Int), .int .u8 0, .slice none 0 0, .slice none 0 0, .slice none 0 0, .slice none 0 0, .slice none 0 0, .slice none 0 0], .agg #[.slice ((Q 0).A) ((Q 0).l.length) ((Q 0).c), .slice ((Q 1).A) ((Q 1).l.length) ((Q 1).c), .slice ((Q 2).A) ((Q 2).l.length) ((Q 2).c), .slice ((Q 3).A) ((Q 3).l.length) ((Q 3).c), .slice ((Q 4).A) ((Q 4).l.length) ((Q 4).c), .slice ((Q 5).A) ((Q 5).l.length) ((Q 5).c)], .int .i64 0] ∧ Kp [] w0 w' ∧ (∀ q, q < 6 → Own w' w0.heap.size 3 1 (Q q).A (Q q).c (ivs (Q q).l)) ∧ ∀ q, q < 6 → (Q q).l = outK (uandn mem gone) (fun p => (R p).l) q 30)) := by
  refine enter (n := 111) Try.func31 rfl rfl rfl (fun ac F => ?_)
  have kp0 := Kp.refl ([] : List Nat) w0
  refine c_seq (fun K1 H2 => ?_)
  refine c_region ?_
  refine stpE F (f_box (cs := [.int .i64 num, .int .u8 (mem : Int), .int .u8 (gone : Int), .slice ((R 0).A) ((R 0).l.length) ((R 0).c), .slice ((R 1).A) ((R 1).l.length) ((R 1).c), .slice ((R 2).A) ((R 2).l.length) ((R 2).c), .slice ((R 3).A) ((R 3).l.length) ((R 3).c), .slice ((R 4).A) ((R 4).l.length) ((R 4).c), .slice ((R 5).A) ((R 5).l.length) ((R 5).c)]) rfl rfl) rfl rfl rfl ?_
  rintro _ w4 ac ⟨g3, rfl, nb6⟩ F
  have n7 := nb6.num
  have z8 := nb6.size
  have hsz := (nb6.kp).size
  replace kp0 := kp0.trans (nb6.kp) (by simp)
  have hb5 : Blk w4 g3 70 (flL num mem gone R) := nb6.blk
  refine stpE F (f_alloc (cs := [.int .i64 0, .int .u8 0, .int .u8 0, .slice none 0 0, .slice none 0 0, .slice none 0 0, .slice none 0 0, .slice none 0 0, .slice none 0 0]) Try.zeroValue70 rfl) rfl rfl rfl ?_
  rintro _ w10 ac ⟨g9, rfl, nb12⟩ F
  have n13 := nb12.num
  have z14 := nb12.size
  have hsz := (nb12.kp).size
  replace hb5 := hb5.keep (nb12.kp) (by simp)
  replace kp0 := kp0.trans (nb12.kp) (by simp)
  have hb11 : Blk w10 g9 70 ([.int .i64 0, .int .u8 0, .int .u8 0, .slice none 0 0, .slice none 0 0, .slice none 0 0, .slice none 0 0, .slice none 0 0, .slice none 0 0]) := nb12.blk
  refine stpE F (f_alloc (cs := [.slice none 0 0, .slice none 0 0, .slice none 0 0, .slice none 0 0, .slice none 0 0, .slice none 0 0]) Try.zeroValue68 rfl) rfl rfl rfl ?_
  rintro _ w16 ac ⟨g15, rfl, nb18⟩ F
  have n19 := nb18.num
  have z20 := nb18.size
  have hsz := (nb18.kp).size
  replace hb5 := hb5.keep (nb18.kp) (by simp)
  replace hb11 := hb11.keep (nb18.kp) (by simp)
  replace kp0 := kp0.trans (nb18.kp) (by simp)
  have hb17 : Blk w16 g15 68 ([.slice none 0 0, .slice none 0 0, .slice none 0 0, .slice none 0 0, .slice none 0 0, .slice none 0 0]) := nb18.blk
  refine stp F (f_assign rfl) rfl rfl rfl (fun ac F => ?_)
  refine stpEnd ?_
  refine H2 _ _ ?_
  refine c_seq (fun K21 H22 => ?_)
  refine c_seq (fun K23 H24 => ?_)
  refine c_region ?_
  refine stp F (f_loadN rfl Try.isAgg70 Try.sizeOf70 (hb5.rd (o := 0) (v := .agg #[.int .i64 num, .int .u8 (mem : Int), .int .u8 (gone : Int), .slice ((R 0).A) ((R 0).l.length) ((R 0).c), .slice ((R 1).A) ((R 1).l.length) ((R 1).c), .slice ((R 2).A) ((R 2).l.length) ((R 2).c), .slice ((R 3).A) ((R 3).l.length) ((R 3).c), .slice ((R 4).A) ((R 4).l.length) ((R 4).c), .slice ((R 5).A) ((R 5).l.length) ((R 5).c)]) rfl (by intro j u hu; exact part_at (ps := [.int .i64 num, .int .u8 (mem : Int), .int .u8 (gone : Int), .slice ((R 0).A) ((R 0).l.length) ((R 0).c), .slice ((R 1).A) ((R 1).l.length) ((R 1).c), .slice ((R 2).A) ((R 2).l.length) ((R 2).c), .slice ((R 3).A) ((R 3).l.length) ((R 3).c), .slice ((R 4).A) ((R 4).l.length) ((R 4).c), .slice ((R 5).A) ((R 5).l.length) ((R 5).c)]) (by rfl) (by simpa [Value.cells] using hu)))) rfl rfl rfl (fun ac F => ?_)
  refine stpC F (f_call (P := Try.prog) (f := 35) (vs := [.agg #[.int .i64 num, .int .u8 (mem : Int), .int .u8 (gone : Int), .slice ((R 0).A) ((R 0).l.length) ((R 0).c), .slice ((R 1).A) ((R 1).l.length) ((R 1).c), .slice ((R 2).A) ((R 2).l.length) ((R 2).c), .slice ((R 3).A) ((R 3).l.length) ((R 3).c), .slice ((R 4).A) ((R 4).l.length) ((R 4).c), .slice ((R 5).A) ((R 5).l.length) ((R 5).c)]]) rfl Try.call35) (chk_c num mem gone R _ hmem hgone (fun p hp => ((hS p hp).keep kp0 (by simp)).more (Nat.le_refl _) kp0.size)) rfl rfl rfl ?_
  rintro _ w25 ac ⟨e, rfl, hev, kq26⟩ F
  have hsz := (kq26).size
  replace hb5 := hb5.keep (kq26) (by simp)
  replace hb11 := hb11.keep (kq26) (by simp)
  replace hb17 := hb17.keep (kq26) (by simp)
  replace kp0 := kp0.trans (kq26) (by simp)
  refine stp F (f_assign rfl) rfl rfl rfl (fun ac F => ?_)
  refine stpEnd ?_
  refine H24 _ _ ?_
  refine c_seq (fun K27 H28 => ?_)
  refine c_region ?_
  refine stp F (f_move rfl) rfl rfl rfl (fun ac F => ?_)
  refine stp F (f_neq rfl rfl) rfl rfl rfl (fun ac F => ?_)
  refine stpEnd ?_
  refine H28 _ _ ?_
  by_cases hc29 : e = 0
  · have hc := hc29
    replace F := F.setb (k := 23) (b' := false) rfl (nt (decide_eq_true hc))
    clear hc
    refine c_false F rfl ?_
    refine wp_skip ?_
    refine H22 _ _ ?_
    refine c_seq (fun K30 H31 => ?_)
    refine c_region ?_
    refine stp F (f_fieldAddr (r := ⟨g3, 0, none⟩) (sz := 1) rfl Try.underlying70 rfl Try.sizeOf67 rfl) rfl rfl rfl (fun ac F => ?_)
    refine stp F (f_loadN rfl Try.isAgg67 Try.sizeOf67 (hb5.rd (o := 0) (v := .agg #[.int .i64 num, .int .u8 (mem : Int)]) rfl (by intro j u hu; exact part_at (ps := [.int .i64 num, .int .u8 (mem : Int)]) (by rfl) (by simpa [Value.cells] using hu)))) rfl rfl rfl (fun ac F => ?_)
    refine stp F (f_fieldAddr (r := ⟨g3, 2, none⟩) (sz := 0) rfl Try.underlying70 rfl Try.sizeOf5 rfl) rfl rfl rfl (fun ac F => ?_)
    refine stp F (f_load1 (v := .int .u8 (gone : Int)) rfl Try.isAgg5 ((hb5.cell _).trans rfl)) rfl rfl rfl (fun ac F => ?_)
    refine stp F (f_move rfl) rfl rfl rfl (fun ac F => ?_)
    refine stpC F (f_call (P := Try.prog) (f := 58) (vs := [.agg #[.int .i64 num, .int .u8 (mem : Int)], .int .u8 (gone : Int), .int .u8 (come : Int)]) rfl Try.call58) (next_c num mem gone come _ hmem hgone hcome hnum) rfl rfl rfl ?_
    rintro _ w32 ac ⟨rfl, kq33⟩ F
    have hsz := (kq33).size
    replace hb5 := hb5.keep (kq33) (by simp)
    replace hb11 := hb11.keep (kq33) (by simp)
    replace hb17 := hb17.keep (kq33) (by simp)
    replace kp0 := kp0.trans (kq33) (by simp)
    refine stp F (f_move rfl) rfl rfl rfl (fun ac F => ?_)
    refine stp F (f_extract (vs := [.agg #[.int .i64 ((nextR num mem gone come).num), .int .u8 (((nextR num mem gone come).mem : Nat) : Int)], .int .i64 ((nextR num mem gone come).e)]) rfl rfl) rfl rfl rfl (fun ac F => ?_)
    refine stp F (f_extract (vs := [.agg #[.int .i64 ((nextR num mem gone come).num), .int .u8 (((nextR num mem gone come).mem : Nat) : Int)], .int .i64 ((nextR num mem gone come).e)]) rfl rfl) rfl rfl rfl (fun ac F => ?_)
    refine stpE F (f_alloc (cs := [.int .i64 0, .int .u8 0]) Try.zeroValue67 rfl) rfl rfl rfl ?_
    rintro _ w35 ac ⟨g34, rfl, nb37⟩ F
    have n38 := nb37.num
    have z39 := nb37.size
    have hsz := (nb37.kp).size
    replace hb5 := hb5.keep (nb37.kp) (by simp)
    replace hb11 := hb11.keep (nb37.kp) (by simp)
    replace hb17 := hb17.keep (nb37.kp) (by simp)
    replace kp0 := kp0.trans (nb37.kp) (by simp)
    have hb36 : Blk w35 g34 67 ([.int .i64 0, .int .u8 0]) := nb37.blk
    refine stpW F (f_store (v := .agg #[.int .i64 ((nextR num mem gone come).num), .int .u8 (((nextR num mem gone come).mem : Nat) : Int)]) (vs := [.int .i64 ((nextR num mem gone come).num), .int .u8 (((nextR num mem gone come).mem : Nat) : Int)]) rfl rfl hb36 Try.sizeOf67 rfl rfl (by simp) (by simp [plainV])) rfl rfl ?_
    rintro w40 ac wr41 F
    have z42 := wr41.size
    have hsz := (wr41.kp).size
    replace hb5 := hb5.keep (wr41.kp) (by have := hb5.lt; simp; omega)
    replace hb11 := hb11.keep (wr41.kp) (by have := hb11.lt; simp; omega)
    replace hb17 := hb17.keep (wr41.kp) (by have := hb17.lt; simp; omega)
    replace kp0 := kp0.trans (wr41.kp) (by intro x hx hl; simp at hx; omega)
    replace hb36 : Blk w40 g34 67 ([.int .i64 ((nextR num mem gone come).num), .int .u8 (((nextR num mem gone come).mem : Nat) : Int)]) := wr41.blk
    refine stp F (f_assign rfl) rfl rfl rfl (fun ac F => ?_)
    refine stpEnd ?_
    refine H31 _ _ ?_
    refine c_seq (fun K43 H44 => ?_)
    refine c_seq (fun K45 H46 => ?_)
    refine c_region ?_
    refine stp F (f_move rfl) rfl rfl rfl (fun ac F => ?_)
    refine stp F (f_neq rfl rfl) rfl rfl rfl (fun ac F => ?_)
    refine stpEnd ?_
    refine H46 _ _ ?_
    by_cases hc47 : (nextR num mem gone come).e = 0
    · have hc := hc47
      replace F := F.setb (k := 37) (b' := false) rfl (nt (decide_eq_true hc))
      clear hc
      refine c_false F rfl ?_
      refine wp_skip ?_
      refine H44 _ _ ?_
      refine c_seq (fun K48 H49 => ?_)
      refine c_region ?_
      refine stp F (f_fieldAddr (r := ⟨g3, 0, none⟩) (sz := 1) rfl Try.underlying70 rfl Try.sizeOf67 rfl) rfl rfl rfl (fun ac F => ?_)
      refine stp F (f_fieldAddr (r := ⟨g3, 1, none⟩) (sz := 0) rfl Try.underlying67 rfl Try.sizeOf5 rfl) rfl rfl rfl (fun ac F => ?_)
      refine stp F (f_load1 (v := .int .u8 (mem : Int)) rfl Try.isAgg5 ((hb5.cell _).trans rfl)) rfl rfl rfl (fun ac F => ?_)
      refine stp F (f_fieldAddr (r := ⟨g3, 2, none⟩) (sz := 0) rfl Try.underlying70 rfl Try.sizeOf5 rfl) rfl rfl rfl (fun ac F => ?_)
      refine stp F (f_load1 (v := .int .u8 (gone : Int)) rfl Try.isAgg5 ((hb5.cell _).trans rfl)) rfl rfl rfl (fun ac F => ?_)
      refine stp F (f_u8andn (a := mem) (b := gone) rfl rfl) rfl rfl rfl (fun ac F => ?_)
      refine stp F (f_assign rfl) rfl rfl rfl (fun ac F => ?_)
      refine stpEnd ?_
      refine H49 _ _ ?_
      refine c_seq (fun K50 H51 => ?_)
      refine c_region ?_
      refine stpE F (f_alloc (cs := [.bool false, .bool false, .bool false, .bool false, .bool false, .bool false, .bool false, .bool false, .bool false, .bool false, .bool false, .bool false, .bool false, .bool false, .bool false, .bool false, .bool false, .bool false, .bool false, .bool false, .bool false, .bool false, .bool false, .bool false, .bool false, .bool false, .bool false, .bool false, .bool false, .bool false]) Try.zeroValue116 rfl) rfl rfl rfl ?_
      rintro _ w53 ac ⟨g52, rfl, nb55⟩ F
      have n56 := nb55.num
      have z57 := nb55.size
      have hsz := (nb55.kp).size
      replace hb5 := hb5.keep (nb55.kp) (by simp)
      replace hb11 := hb11.keep (nb55.kp) (by simp)
      replace hb17 := hb17.keep (nb55.kp) (by simp)
      replace hb36 := hb36.keep (nb55.kp) (by simp)
      replace kp0 := kp0.trans (nb55.kp) (by simp)
      have hb54 : Blk w53 g52 116 (boolsL 30 (fun _ => false)) := nb55.blk
      refine stpEnd ?_
      refine H51 _ _ ?_
      refine c_seq (fun K58 H59 => ?_)
      refine c_seq (fun K60 H61 => ?_)
      refine c_region ?_
      refine stp F (f_fieldAddr (r := ⟨g3, 3, none⟩) (sz := 5) rfl Try.underlying70 rfl Try.sizeOf68 rfl) rfl rfl rfl (fun ac F => ?_)
      refine stp F (f_loadN rfl Try.isAgg68 Try.sizeOf68 (hb5.rd (o := 3) (v := .agg #[.slice ((R 0).A) ((R 0).l.length) ((R 0).c), .slice ((R 1).A) ((R 1).l.length) ((R 1).c), .slice ((R 2).A) ((R 2).l.length) ((R 2).c), .slice ((R 3).A) ((R 3).l.length) ((R 3).c), .slice ((R 4).A) ((R 4).l.length) ((R 4).c), .slice ((R 5).A) ((R 5).l.length) ((R 5).c)]) rfl (by intro j u hu; exact part_at (ps := [.slice ((R 0).A) ((R 0).l.length) ((R 0).c), .slice ((R 1).A) ((R 1).l.length) ((R 1).c), .slice ((R 2).A) ((R 2).l.length) ((R 2).c), .slice ((R 3).A) ((R 3).l.length) ((R 3).c), .slice ((R 4).A) ((R 4).l.length) ((R 4).c), .slice ((R 5).A) ((R 5).l.length) ((R 5).c)]) (by rfl) (by simpa [Value.cells] using hu)))) rfl rfl rfl (fun ac F => ?_)
      refine stp F (f_move rfl) rfl rfl rfl (fun ac F => ?_)
      refine stpEnd ?_
      refine H61 _ _ ?_
      refine wp_block ?_
      have hOk : OkF num mem gone (fun p => (R p).l) := hev.1 (by omega)
      have hrk : ∀ p : Nat, p < 6 → RowOk mem p (R p).l := hOk.2.2
      refine c_loop (fun mx ax wx => ∃ (p : Nat), ∃ (b : Nat → Bool), Fr ax 111 [(2, .pointer (some ⟨g3, 0, none⟩)), (4, .pointer (some ⟨g9, 0, none⟩)), (5, .pointer (some ⟨g15, 0, none⟩)), (8, .pointer (some ⟨g34, 0, none⟩)), (10, .int .u8 ((uandn mem gone : Nat) : Int)), (11, .pointer (some ⟨g52, 0, none⟩)), (48, .agg #[.slice ((R 0).A) ((R 0).l.length) ((R 0).c), .slice ((R 1).A) ((R 1).l.length) ((R 1).c), .slice ((R 2).A) ((R 2).l.length) ((R 2).c), .slice ((R 3).A) ((R 3).l.length) ((R 3).c), .slice ((R 4).A) ((R 4).l.length) ((R 4).c), .slice ((R 5).A) ((R 5).l.length) ((R 5).c)]), (49, .int .i64 (p : Int))] ∧ Kp [] w0 wx ∧ Blk wx g3 70 (flL num mem gone R) ∧ Blk wx g9 70 ([.int .i64 0, .int .u8 0, .int .u8 0, .slice none 0 0, .slice none 0 0, .slice none 0 0, .slice none 0 0, .slice none 0 0, .slice none 0 0]) ∧ Blk wx g15 68 ([.slice none 0 0, .slice none 0 0, .slice none 0 0, .slice none 0 0, .slice none 0 0, .slice none 0 0]) ∧ Blk wx g34 67 ([.int .i64 ((nextR num mem gone come).num), .int .u8 (((nextR num mem gone come).mem : Nat) : Int)]) ∧ Blk wx g52 116 (boolsL 30 b) ∧ (p ≤ 6) ∧ (∀ k, k < 30 → (b k = true ↔ ∃ q, q < p ∧ Al (uandn mem gone) q ∧ (k : Int) ∈ (R q).l)) ∧ mx = 6 - p) (6 - 0) ?_ ?_
      · exact ⟨0, (fun _ => false), F.sub ⟨rfl, rfl, rfl, rfl, rfl, rfl, rfl, rfl, trivial⟩, kp0, hb5, hb11, hb17, hb36, hb54, by omega, fun k hk => by simp, rfl⟩
      · clear F kp0 hb5 hb11 hb17 hb36 hb54
        rintro m63 ac wl62 ⟨p, b, F, kp0, hb5, hb11, hb17, hb36, hb54, hp, hb, hm⟩
        have hsz := kp0.size
        have lt_hb5 := hb5.lt
        have lt_hb11 := hb11.lt
        have lt_hb17 := hb17.lt
        have lt_hb36 := hb36.lt
        have lt_hb54 := hb54.lt
        refine c_seq (fun K64 H65 => ?_)
        refine c_region ?_
        refine stp F (f_lss rfl rfl) rfl rfl rfl (fun ac F => ?_)
        refine stpEnd ?_
        refine H65 _ _ ?_
        refine c_seq (fun K66 H67 => ?_)
        by_cases hc68 : (p : Int) < 6
        · have hc := hc68
          replace F := F.setb (k := 50) (b' := true) rfl (decide_eq_true hc)
          clear hc
          refine c_true F rfl ?_
          refine wp_skip ?_
          refine H67 _ _ ?_
          refine c_seq (fun K69 H70 => ?_)
          refine wp_block ?_
          refine c_seq (fun K71 H72 => ?_)
          refine c_region ?_
          refine stp F (f_move rfl) rfl rfl rfl (fun ac F => ?_)
          refine stp F (f_index1 (cs := [.slice ((R 0).A) ((R 0).l.length) ((R 0).c), .slice ((R 1).A) ((R 1).l.length) ((R 1).c), .slice ((R 2).A) ((R 2).l.length) ((R 2).c), .slice ((R 3).A) ((R 3).l.length) ((R 3).c), .slice ((R 4).A) ((R 4).l.length) ((R 4).c), .slice ((R 5).A) ((R 5).l.length) ((R 5).c)]) (v := .slice ((R p).A) ((R p).l.length) ((R p).c)) rfl rfl Try.underlying68 Try.isAgg23 Try.sizeOf23 (by omega) (by omega) (by rcases six_of (show p < 6 by omega) with h | h | h | h | h | h <;> subst h <;> rfl)) rfl rfl rfl (fun ac F => ?_)
          refine stp F (f_assign rfl) rfl rfl rfl (fun ac F => ?_)
          refine stp F (f_assign rfl) rfl rfl rfl (fun ac F => ?_)
          refine stpEnd ?_
          refine H72 _ _ ?_
          refine c_seq (fun K73 H74 => ?_)
          refine c_region ?_
          refine stp F (f_move rfl) rfl rfl rfl (fun ac F => ?_)
          refine stp F (f_len rfl Try.underlying23) rfl rfl rfl (fun ac F => ?_)
          refine stp F (f_move rfl) rfl rfl rfl (fun ac F => ?_)
          refine stpEnd ?_
          refine H74 _ _ ?_
          refine wp_block ?_
          have hrp := hrk p (by omega)
          have hrl := hrp.1
          refine c_loop (fun mx ax wx => ∃ (i : Nat), ∃ (b : Nat → Bool), Fr ax 111 [(2, .pointer (some ⟨g3, 0, none⟩)), (4, .pointer (some ⟨g9, 0, none⟩)), (5, .pointer (some ⟨g15, 0, none⟩)), (8, .pointer (some ⟨g34, 0, none⟩)), (10, .int .u8 ((uandn mem gone : Nat) : Int)), (11, .pointer (some ⟨g52, 0, none⟩)), (48, .agg #[.slice ((R 0).A) ((R 0).l.length) ((R 0).c), .slice ((R 1).A) ((R 1).l.length) ((R 1).c), .slice ((R 2).A) ((R 2).l.length) ((R 2).c), .slice ((R 3).A) ((R 3).l.length) ((R 3).c), .slice ((R 4).A) ((R 4).l.length) ((R 4).c), .slice ((R 5).A) ((R 5).l.length) ((R 5).c)]), (49, .int .i64 (p : Int)), (12, .int .i64 (p : Int)), (53, .slice ((R p).A) ((R p).l.length) ((R p).c)), (54, .int .i64 (((R p).l.length : Nat) : Int)), (55, .int .i64 (i : Int))] ∧ Kp [] w0 wx ∧ Blk wx g3 70 (flL num mem gone R) ∧ Blk wx g9 70 ([.int .i64 0, .int .u8 0, .int .u8 0, .slice none 0 0, .slice none 0 0, .slice none 0 0, .slice none 0 0, .slice none 0 0, .slice none 0 0]) ∧ Blk wx g15 68 ([.slice none 0 0, .slice none 0 0, .slice none 0 0, .slice none 0 0, .slice none 0 0, .slice none 0 0]) ∧ Blk wx g34 67 ([.int .i64 ((nextR num mem gone come).num), .int .u8 (((nextR num mem gone come).mem : Nat) : Int)]) ∧ Blk wx g52 116 (boolsL 30 b) ∧ (i ≤ (R p).l.length) ∧ (∀ k, k < 30 → (b k = true ↔ (∃ q, q < p ∧ Al (uandn mem gone) q ∧ (k : Int) ∈ (R q).l) ∨ (Al (uandn mem gone) p ∧ ∃ j, j < i ∧ (R p).l.getD j 0 = (k : Int)))) ∧ mx = (R p).l.length - i) ((R p).l.length - 0) ?_ ?_
          · exact ⟨0, b, F.sub ⟨rfl, rfl, rfl, rfl, rfl, rfl, rfl, rfl, rfl, rfl, rfl, rfl, trivial⟩, kp0, hb5, hb11, hb17, hb36, hb54, by omega, fun k hk => by rw [hb k hk]; simp, rfl⟩
          · clear F kp0 hb5 hb11 hb17 hb36 hb54
            rintro m76 ac wl75 ⟨i, b, F, kp0, hb5, hb11, hb17, hb36, hb54, hi0, hb, hm⟩
            have hsz := kp0.size
            have lt_hb5 := hb5.lt
            have lt_hb11 := hb11.lt
            have lt_hb17 := hb17.lt
            have lt_hb36 := hb36.lt
            have lt_hb54 := hb54.lt
            refine c_seq (fun K77 H78 => ?_)
            refine c_region ?_
            refine stp F (f_lss rfl rfl) rfl rfl rfl (fun ac F => ?_)
            refine stpEnd ?_
            refine H78 _ _ ?_
            refine c_seq (fun K79 H80 => ?_)
            by_cases hc81 : (i : Int) < (((R p).l.length : Nat) : Int)
            · have hc := hc81
              replace F := F.setb (k := 56) (b' := true) rfl (decide_eq_true hc)
              clear hc
              refine c_true F rfl ?_
              refine wp_skip ?_
              refine H80 _ _ ?_
              refine c_seq (fun K82 H83 => ?_)
              refine wp_block ?_
              refine c_seq (fun K84 H85 => ?_)
              have hi : i < (R p).l.length := by omega
              have hl := (hS p (by omega)).keep kp0 (by simp)
              refine c_region ?_
              refine stp F (f_indexS (r := ((adr ((R p).A)).add (i * 1))) rfl rfl Try.underlying23 Try.sizeOf3 (by omega) (by omega) (hl.some_ (by omega)).1 (by rw [show Int.toNat (i : Int) = i from by omega])) rfl rfl rfl (fun ac F => ?_)
              refine stp F (f_load1 (v := .int .i64 (((R p).l).getD i 0)) rfl Try.isAgg3 (hl.cell1 (i := i) (by omega) rfl rfl)) rfl rfl rfl (fun ac F => ?_)
              refine stp F (f_assign rfl) rfl rfl rfl (fun ac F => ?_)
              refine stpEnd ?_
              obtain ⟨m, hm30, hme⟩ : ∃ m : Nat, m < 30 ∧ (R p).l.getD i 0 = (m : Int) := by have h_ := (hrp.2.2 i hi).1; exact ⟨((R p).l.getD i 0).toNat, by omega, by omega⟩
              rw [hme] at F
              refine H85 _ _ ?_
              refine c_region ?_
              refine stp F (f_move rfl) rfl rfl rfl (fun ac F => ?_)
              refine stp F (f_move rfl) rfl rfl rfl (fun ac F => ?_)
              refine stp F (f_indexA (r := ⟨g52, m * 1, none⟩) rfl rfl Try.underlying116 Try.sizeOf4 (by omega) (by omega) (add_eq (by omega))) rfl rfl rfl (fun ac F => ?_)
              refine stp F (f_load1 (v := .bool (b m)) rfl Try.isAgg4 ((hb54.cell _).trans (boolsL_get (by omega)))) rfl rfl rfl (fun ac F => ?_)
              refine stp F (f_move rfl) rfl rfl rfl (fun ac F => ?_)
              by_cases hc86 : b m = true
              · have hc := hc86
                replace F := F.setb (k := 62) (b' := true) rfl (hc)
                replace F := F.setb (k := 63) (b' := true) rfl (hc)
                clear hc
                refine stpN F rfl rfl rfl (fun ac F => ?_)
                refine stpN F rfl rfl rfl (fun ac F => ?_)
                refine stpN F rfl rfl rfl (fun ac F => ?_)
                refine stpN F rfl rfl rfl (fun ac F => ?_)
                refine stpN F rfl rfl rfl (fun ac F => ?_)
                refine stp F (f_pickT rfl rfl) rfl rfl rfl (fun ac F => ?_)
                refine stp F (f_indexA (r := ⟨g52, m * 1, none⟩) rfl rfl Try.underlying116 Try.sizeOf4 (by omega) (by omega) (add_eq (by omega))) rfl rfl rfl (fun ac F => ?_)
                refine stpW F (f_store (v := .bool true) (vs := [.bool true]) rfl rfl hb54 Try.sizeOf4 rfl rfl (by rw [boolsL_len]; simp; omega) (by simp [plainV])) rfl rfl ?_
                rintro w87 ac wr88 F
                have z89 := wr88.size
                have hsz := (wr88.kp).size
                replace hb5 := hb5.keep (wr88.kp) (by have := hb5.lt; simp; omega)
                replace hb11 := hb11.keep (wr88.kp) (by have := hb11.lt; simp; omega)
                replace hb17 := hb17.keep (wr88.kp) (by have := hb17.lt; simp; omega)
                replace hb36 := hb36.keep (wr88.kp) (by have := hb36.lt; simp; omega)
                replace kp0 := kp0.trans (wr88.kp) (by intro x hx hl; simp at hx; omega)
                replace hb54 : Blk w87 g52 116 (boolsL 30 (upd b m true)) := ((wr88.blk).eqv (boolsL_put (by omega)))
                refine stpEnd ?_
                skip
                refine H83 _ _ ?_
                refine c_region ?_
                refine stp F (f_add (r := ((i + 1 : Nat) : Int)) rfl rfl (by rw [IntKind.wrap_i64]; omega)) rfl rfl rfl (fun ac F => ?_)
                refine stp F (f_move rfl) rfl rfl rfl (fun ac F => ?_)
                refine stpEnd ?_
                refine ⟨(R p).l.length - (i + 1), ?_, (i + 1), (upd b m true), F.sub ⟨rfl, rfl, rfl, rfl, rfl, rfl, rfl, rfl, rfl, rfl, rfl, rfl, trivial⟩, kp0, hb5, hb11, hb17, hb36, hb54, by omega, mark_next hb hm30 hme (by simp [hc86]), rfl⟩
                omega
              · have hc := hc86
                replace F := F.setb (k := 62) (b' := false) rfl (Bool.eq_false_iff.2 hc)
                replace F := F.setb (k := 63) (b' := false) rfl (Bool.eq_false_iff.2 hc)
                clear hc
                refine stp F (f_move rfl) rfl rfl rfl (fun ac F => ?_)
                refine stp F (f_move rfl) rfl rfl rfl (fun ac F => ?_)
                refine stp F (f_u8shr (a := (uandn mem gone)) (j := p) (by first | omega | exact uandn_lt _ _ | exact uor_lt _ _ | exact uand_lt _ _) (by omega) rfl rfl) rfl rfl rfl (fun ac F => ?_)
                refine stp F (f_u8and (a := ((uandn mem gone) / 2 ^ p)) (b := 1) rfl rfl) rfl rfl rfl (fun ac F => ?_)
                refine stp F (f_eql rfl rfl) rfl rfl rfl (fun ac F => ?_)
                refine stp F (f_pickF rfl rfl) rfl rfl rfl (fun ac F => ?_)
                refine stp F (f_indexA (r := ⟨g52, m * 1, none⟩) rfl rfl Try.underlying116 Try.sizeOf4 (by omega) (by omega) (add_eq (by omega))) rfl rfl rfl (fun ac F => ?_)
                refine stpW F (f_store (v := .bool (decide (((uand ((uandn mem gone) / 2 ^ p) 1 : Nat) : Int) = 1))) (vs := [.bool (decide (((uand ((uandn mem gone) / 2 ^ p) 1 : Nat) : Int) = 1))]) rfl rfl hb54 Try.sizeOf4 rfl rfl (by rw [boolsL_len]; simp; omega) (by simp [plainV])) rfl rfl ?_
                rintro w90 ac wr91 F
                have z92 := wr91.size
                have hsz := (wr91.kp).size
                replace hb5 := hb5.keep (wr91.kp) (by have := hb5.lt; simp; omega)
                replace hb11 := hb11.keep (wr91.kp) (by have := hb11.lt; simp; omega)
                replace hb17 := hb17.keep (wr91.kp) (by have := hb17.lt; simp; omega)
                replace hb36 := hb36.keep (wr91.kp) (by have := hb36.lt; simp; omega)
                replace kp0 := kp0.trans (wr91.kp) (by intro x hx hl; simp at hx; omega)
                replace hb54 : Blk w90 g52 116 (boolsL 30 (upd b m (decide (((uand ((uandn mem gone) / 2 ^ p) 1 : Nat) : Int) = 1)))) := ((wr91.blk).eqv (boolsL_put (by omega)))
                refine stpEnd ?_
                skip
                refine H83 _ _ ?_
                refine c_region ?_
                refine stp F (f_add (r := ((i + 1 : Nat) : Int)) rfl rfl (by rw [IntKind.wrap_i64]; omega)) rfl rfl rfl (fun ac F => ?_)
                refine stp F (f_move rfl) rfl rfl rfl (fun ac F => ?_)
                refine stpEnd ?_
                refine ⟨(R p).l.length - (i + 1), ?_, (i + 1), (upd b m (decide (((uand ((uandn mem gone) / 2 ^ p) 1 : Nat) : Int) = 1))), F.sub ⟨rfl, rfl, rfl, rfl, rfl, rfl, rfl, rfl, rfl, rfl, rfl, rfl, trivial⟩, kp0, hb5, hb11, hb17, hb36, hb54, by omega, mark_next hb hm30 hme (by rw [decide_eq_true_eq]; constructor; intro h_; exact .inr (by unfold Al; omega); rintro (h_ | h_); exact absurd h_ hc86; unfold Al at h_; omega), rfl⟩
                omega
            · have hc := hc81
              replace F := F.setb (k := 56) (b' := false) rfl (decide_eq_false hc)
              clear hc
              refine c_false F rfl ?_
              refine wp_exit ?_
              refine H70 _ _ ?_
              refine c_region ?_
              refine stp F (f_add (r := ((p + 1 : Nat) : Int)) rfl rfl (by rw [IntKind.wrap_i64]; omega)) rfl rfl rfl (fun ac F => ?_)
              refine stp F (f_move rfl) rfl rfl rfl (fun ac F => ?_)
              refine stpEnd ?_
              refine ⟨6 - (p + 1), ?_, (p + 1), b, F.sub ⟨rfl, rfl, rfl, rfl, rfl, rfl, rfl, rfl, trivial⟩, kp0, hb5, hb11, hb17, hb36, hb54, by omega, mark_row (L := (fun p => (R p).l)) (by intro k hk; have h_ := hb k hk; rw [show i = (R p).l.length from by omega] at h_; exact h_), rfl⟩
              omega
        · have hc := hc68
          replace F := F.setb (k := 50) (b' := false) rfl (decide_eq_false hc)
          clear hc
          refine c_false F rfl ?_
          refine wp_exit ?_
          refine H59 _ _ ?_
          refine c_seq (fun K93 H94 => ?_)
          refine c_region ?_
          refine stpE F (f_alloc (cs := [.slice none 0 0, .slice none 0 0, .slice none 0 0, .slice none 0 0, .slice none 0 0, .slice none 0 0]) Try.zeroValue68 rfl) rfl rfl rfl ?_
          rintro _ w96 ac ⟨g95, rfl, nb98⟩ F
          have n99 := nb98.num
          have z100 := nb98.size
          have hsz := (nb98.kp).size
          replace hb5 := hb5.keep (nb98.kp) (by simp)
          replace hb11 := hb11.keep (nb98.kp) (by simp)
          replace hb17 := hb17.keep (nb98.kp) (by simp)
          replace hb36 := hb36.keep (nb98.kp) (by simp)
          replace hb54 := hb54.keep (nb98.kp) (by simp)
          replace kp0 := kp0.trans (nb98.kp) (by simp)
          have hb97 : Blk w96 g95 68 (rows6 nilR) := nb98.blk
          refine stpEnd ?_
          refine H94 _ _ ?_
          refine c_seq (fun K101 H102 => ?_)
          refine c_seq (fun K103 H104 => ?_)
          refine c_region ?_
          refine stp F (f_move rfl) rfl rfl rfl (fun ac F => ?_)
          refine stpEnd ?_
          refine H104 _ _ ?_
          refine wp_block ?_
          have hIR : IRows w96 w96.heap.size nilR := IRows.nilr (Nat.le_refl _)
          have hb6 : ∀ k, k < 30 → (b k = true ↔ AllM (uandn mem gone) (fun p => (R p).l) k) := fun k hk => by rw [hb k hk]; unfold AllM; rw [show p = 6 from by omega]
          refine c_loop (fun mx ax wx => ∃ (p : Nat), ∃ (Q : Nat → Ri), Fr ax 111 [(2, .pointer (some ⟨g3, 0, none⟩)), (4, .pointer (some ⟨g9, 0, none⟩)), (5, .pointer (some ⟨g15, 0, none⟩)), (8, .pointer (some ⟨g34, 0, none⟩)), (10, .int .u8 ((uandn mem gone : Nat) : Int)), (11, .pointer (some ⟨g52, 0, none⟩)), (16, .pointer (some ⟨g95, 0, none⟩)), (73, .int .i64 (p : Int))] ∧ Kp [] w0 wx ∧ Blk wx g3 70 (flL num mem gone R) ∧ Blk wx g9 70 ([.int .i64 0, .int .u8 0, .int .u8 0, .slice none 0 0, .slice none 0 0, .slice none 0 0, .slice none 0 0, .slice none 0 0, .slice none 0 0]) ∧ Blk wx g15 68 ([.slice none 0 0, .slice none 0 0, .slice none 0 0, .slice none 0 0, .slice none 0 0, .slice none 0 0]) ∧ Blk wx g34 67 ([.int .i64 ((nextR num mem gone come).num), .int .u8 (((nextR num mem gone come).mem : Nat) : Int)]) ∧ Blk wx g52 116 (boolsL 30 b) ∧ Blk wx g95 68 (rows6 Q) ∧ IRows wx w96.heap.size Q ∧ (p ≤ 6) ∧ (∀ q, q < p → (Q q).l = outK (uandn mem gone) (fun p => (R p).l) q 30) ∧ (∀ q, p ≤ q → (Q q).l = []) ∧ mx = 6 - p) (6 - 0) ?_ ?_
          · exact ⟨0, nilR, F.sub ⟨rfl, rfl, rfl, rfl, rfl, rfl, rfl, rfl, trivial⟩, kp0, hb5, hb11, hb17, hb36, hb54, hb97, hIR, by omega, fun q hq => by omega, fun q hq => rfl, rfl⟩
          · clear F kp0 hb5 hb11 hb17 hb36 hb54 hb97
            rintro m106 ac wl105 ⟨p, Q, F, kp0, hb5, hb11, hb17, hb36, hb54, hb97, hIR, hp, hQ, hQ0, hm⟩
            have hsz := kp0.size
            have lt_hb5 := hb5.lt
            have lt_hb11 := hb11.lt
            have lt_hb17 := hb17.lt
            have lt_hb36 := hb36.lt
            have lt_hb54 := hb54.lt
            have lt_hb97 := hb97.lt
            refine c_seq (fun K107 H108 => ?_)
            refine c_region ?_
            refine stp F (f_lss rfl rfl) rfl rfl rfl (fun ac F => ?_)
            refine stpEnd ?_
            refine H108 _ _ ?_
            refine c_seq (fun K109 H110 => ?_)
            by_cases hc111 : (p : Int) < 6
            · have hc := hc111
              replace F := F.setb (k := 74) (b' := true) rfl (decide_eq_true hc)
              clear hc
              refine c_true F rfl ?_
              refine wp_skip ?_
              refine H110 _ _ ?_
              refine c_seq (fun K112 H113 => ?_)
              refine wp_block ?_
              refine c_seq (fun K114 H115 => ?_)
              refine c_region ?_
              refine stp F (f_move rfl) rfl rfl rfl (fun ac F => ?_)
              refine stp F (f_assign rfl) rfl rfl rfl (fun ac F => ?_)
              refine stpEnd ?_
              refine H115 _ _ ?_
              refine c_seq (fun K116 H117 => ?_)
              refine c_region ?_
              refine stp F (f_loadN rfl Try.isAgg116 Try.sizeOf116 (by have h_ := (hb54).rdAll; rw [boolsL_len] at h_; exact h_)) rfl rfl rfl (fun ac F => ?_)
              refine stp F (f_move rfl) rfl rfl rfl (fun ac F => ?_)
              refine stpEnd ?_
              refine H117 _ _ ?_
              refine wp_block ?_
              refine c_loop (fun mx ax wx => ∃ (m : Nat), ∃ (Q : Nat → Ri), Fr ax 111 [(2, .pointer (some ⟨g3, 0, none⟩)), (4, .pointer (some ⟨g9, 0, none⟩)), (5, .pointer (some ⟨g15, 0, none⟩)), (8, .pointer (some ⟨g34, 0, none⟩)), (10, .int .u8 ((uandn mem gone : Nat) : Int)), (11, .pointer (some ⟨g52, 0, none⟩)), (16, .pointer (some ⟨g95, 0, none⟩)), (73, .int .i64 (p : Int)), (17, .int .i64 (p : Int)), (76, .agg (boolsL 30 b).toArray), (77, .int .i64 (m : Int))] ∧ Kp [] w0 wx ∧ Blk wx g3 70 (flL num mem gone R) ∧ Blk wx g9 70 ([.int .i64 0, .int .u8 0, .int .u8 0, .slice none 0 0, .slice none 0 0, .slice none 0 0, .slice none 0 0, .slice none 0 0, .slice none 0 0]) ∧ Blk wx g15 68 ([.slice none 0 0, .slice none 0 0, .slice none 0 0, .slice none 0 0, .slice none 0 0, .slice none 0 0]) ∧ Blk wx g34 67 ([.int .i64 ((nextR num mem gone come).num), .int .u8 (((nextR num mem gone come).mem : Nat) : Int)]) ∧ Blk wx g52 116 (boolsL 30 b) ∧ Blk wx g95 68 (rows6 Q) ∧ IRows wx w96.heap.size Q ∧ (m ≤ 30) ∧ (∀ q, q < p → (Q q).l = outK (uandn mem gone) (fun p => (R p).l) q 30) ∧ ((Q p).l = outK (uandn mem gone) (fun p => (R p).l) p m) ∧ (∀ q, p + 1 ≤ q → (Q q).l = []) ∧ mx = 30 - m) (30 - 0) ?_ ?_
              · exact ⟨0, Q, F.sub ⟨rfl, rfl, rfl, rfl, rfl, rfl, rfl, rfl, rfl, rfl, rfl, trivial⟩, kp0, hb5, hb11, hb17, hb36, hb54, hb97, hIR, by omega, hQ, (hQ0 p (Nat.le_refl _)).trans outK_zero.symm, fun q hq => hQ0 q (by omega), rfl⟩
              · clear F kp0 hb5 hb11 hb17 hb36 hb54 hb97 hIR
                rintro m119 ac wl118 ⟨m, Q, F, kp0, hb5, hb11, hb17, hb36, hb54, hb97, hIR, hm0, hQ, hQp, hQ0, hm⟩
                have hsz := kp0.size
                have lt_hb5 := hb5.lt
                have lt_hb11 := hb11.lt
                have lt_hb17 := hb17.lt
                have lt_hb36 := hb36.lt
                have lt_hb54 := hb54.lt
                have lt_hb97 := hb97.lt
                refine c_seq (fun K120 H121 => ?_)
                refine c_region ?_
                refine stp F (f_lss rfl rfl) rfl rfl rfl (fun ac F => ?_)
                refine stpEnd ?_
                refine H121 _ _ ?_
                refine c_seq (fun K122 H123 => ?_)
                by_cases hc124 : (m : Int) < 30
                · have hc := hc124
                  replace F := F.setb (k := 78) (b' := true) rfl (decide_eq_true hc)
                  clear hc
                  refine c_true F rfl ?_
                  refine wp_skip ?_
                  refine H123 _ _ ?_
                  refine c_seq (fun K125 H126 => ?_)
                  refine wp_block ?_
                  refine c_seq (fun K127 H128 => ?_)
                  refine c_region ?_
                  refine stp F (f_move rfl) rfl rfl rfl (fun ac F => ?_)
                  refine stp F (f_index1 (cs := boolsL 30 b) (v := .bool (b m)) rfl rfl Try.underlying116 Try.isAgg4 Try.sizeOf4 (by omega) (by omega) (by rw [Int.toNat_natCast]; have h_ := boolsL_get (n := 30) (f := b) (i := m) (by omega); rw [Nat.mul_one] at h_; exact h_)) rfl rfl rfl (fun ac F => ?_)
                  refine stp F (f_assign rfl) rfl rfl rfl (fun ac F => ?_)
                  refine stp F (f_assign rfl) rfl rfl rfl (fun ac F => ?_)
                  refine stpEnd ?_
                  refine H128 _ _ ?_
                  refine c_seq (fun K129 H130 => ?_)
                  have hm30 : m < 30 := by omega
                  have hl := (hS p (by omega)).keep kp0 (by simp)
                  have hrl := (hrk p (by omega)).1
                  refine c_region ?_
                  refine stp F (f_move rfl) rfl rfl rfl (fun ac F => ?_)
                  refine stp F (f_move rfl) rfl rfl rfl (fun ac F => ?_)
                  by_cases hc131 : b m = true
                  · have hc := hc131
                    replace F := F.setb (k := 80) (b' := true) rfl (hc)
                    replace F := F.setb (k := 19) (b' := true) rfl (hc)
                    replace F := F.setb (k := 81) (b' := true) rfl (hc)
                    replace F := F.setb (k := 82) (b' := true) rfl (hc)
                    clear hc
                    refine stp F (f_move rfl) rfl rfl rfl (fun ac F => ?_)
                    refine stp F (f_move rfl) rfl rfl rfl (fun ac F => ?_)
                    refine stp F (f_u8shr (a := (uandn mem gone)) (j := p) (by first | omega | exact uandn_lt _ _ | exact uor_lt _ _ | exact uand_lt _ _) (by omega) rfl rfl) rfl rfl rfl (fun ac F => ?_)
                    refine stp F (f_u8and (a := ((uandn mem gone) / 2 ^ p)) (b := 1) rfl rfl) rfl rfl rfl (fun ac F => ?_)
                    refine stp F (f_eql rfl rfl) rfl rfl rfl (fun ac F => ?_)
                    refine stp F (f_pickT rfl rfl) rfl rfl rfl (fun ac F => ?_)
                    refine stp F (f_move rfl) rfl rfl rfl (fun ac F => ?_)
                    by_cases hc132 : ((uand ((uandn mem gone) / 2 ^ p) 1 : Nat) : Int) = 1
                    · have hc := hc132
                      replace F := F.setb (k := 87) (b' := true) rfl (decide_eq_true hc)
                      replace F := F.setb (k := 88) (b' := true) rfl (decide_eq_true hc)
                      replace F := F.setb (k := 89) (b' := true) rfl (decide_eq_true hc)
                      clear hc
                      refine stp F (f_move rfl) rfl rfl rfl (fun ac F => ?_)
                      refine stp F (f_fieldAddr (r := ⟨g3, 3, none⟩) (sz := 5) rfl Try.underlying70 rfl Try.sizeOf68 rfl) rfl rfl rfl (fun ac F => ?_)
                      refine stp F (f_indexA (r := ⟨g3, 3 + p * 1, none⟩) rfl rfl Try.underlying68 Try.sizeOf23 (by omega) (by omega) (add_eq (by omega))) rfl rfl rfl (fun ac F => ?_)
                      refine stp F (f_load1 (v := .slice ((R p).A) ((R p).l.length) ((R p).c)) rfl Try.isAgg23 ((hb5.cell _).trans (fl_get (p := p) (by omega) rfl))) rfl rfl rfl (fun ac F => ?_)
                      refine stp F (f_move rfl) rfl rfl rfl (fun ac F => ?_)
                      refine stpC F (f_call (P := Try.prog) (f := 10) (vs := [.slice ((R p).A) ((R p).l.length) ((R p).c), .int .i64 (m : Int)]) rfl Try.call10) (contains_c (R p).A (R p).l.length (R p).c _ _ (R p).l m _ hl (by omega)) rfl rfl rfl ?_
                      rintro _ w133 ac ⟨b2, rfl, hb2, kq134⟩ F
                      have hsz := (kq134).size
                      replace hb5 := hb5.keep (kq134) (by simp)
                      replace hb11 := hb11.keep (kq134) (by simp)
                      replace hb17 := hb17.keep (kq134) (by simp)
                      replace hb36 := hb36.keep (kq134) (by simp)
                      replace hb54 := hb54.keep (kq134) (by simp)
                      replace hb97 := hb97.keep (kq134) (by simp)
                      replace hIR := hIR.keep (kq134) (by simp)
                      replace hl := hl.keep (kq134) (by simp)
                      replace kp0 := kp0.trans (kq134) (by simp)
                      refine stp F (f_not rfl) rfl rfl rfl (fun ac F => ?_)
                      refine stp F (f_pickT rfl rfl) rfl rfl rfl (fun ac F => ?_)
                      refine stpEnd ?_
                      skip
                      refine H130 _ _ ?_
                      by_cases hc135 : b2 = true
                      · have hc := hc135
                        replace F := F.setb (k := 95) (b' := true) rfl (hc)
                        replace F := F.setb (k := 96) (b' := false) rfl (nt (hc))
                        replace F := F.setb (k := 97) (b' := false) rfl (nt (hc))
                        clear hc
                        refine c_false F rfl ?_
                        refine wp_skip ?_
                        refine H126 _ _ ?_
                        refine c_region ?_
                        refine stp F (f_add (r := ((m + 1 : Nat) : Int)) rfl rfl (by rw [IntKind.wrap_i64]; omega)) rfl rfl rfl (fun ac F => ?_)
                        refine stp F (f_move rfl) rfl rfl rfl (fun ac F => ?_)
                        refine stpEnd ?_
                        refine ⟨30 - (m + 1), ?_, (m + 1), Q, F.sub ⟨rfl, rfl, rfl, rfl, rfl, rfl, rfl, rfl, rfl, rfl, rfl, trivial⟩, kp0, hb5, hb11, hb17, hb36, hb54, hb97, hIR, by omega, hQ, by rw [hQp]; exact (outK_no (by exact fun h_ => h_.2.2 (mem_getD.1 (hb2.1 hc135)))).symm, hQ0, rfl⟩
                        omega
                      · have hc := hc135
                        replace F := F.setb (k := 95) (b' := false) rfl (Bool.eq_false_iff.2 hc)
                        replace F := F.setb (k := 96) (b' := true) rfl (nf (Bool.eq_false_iff.2 hc))
                        replace F := F.setb (k := 97) (b' := true) rfl (nf (Bool.eq_false_iff.2 hc))
                        clear hc
                        refine c_true F rfl ?_
                        refine c_region ?_
                        refine stp F (f_move rfl) rfl rfl rfl (fun ac F => ?_)
                        refine stp F (f_move rfl) rfl rfl rfl (fun ac F => ?_)
                        refine stp F (f_indexA (r := ⟨g95, p * 1, none⟩) rfl rfl Try.underlying68 Try.sizeOf23 (by omega) (by omega) (add_eq (by omega))) rfl rfl rfl (fun ac F => ?_)
                        refine stp F (f_load1 (v := .slice ((Q p).A) ((Q p).l.length) ((Q p).c)) rfl Try.isAgg23 ((hb97.cell _).trans (r6_get (p := p) (by omega) rfl))) rfl rfl rfl (fun ac F => ?_)
                        refine stp F (f_move rfl) rfl rfl rfl (fun ac F => ?_)
                        refine stpE F (f_buildSlice (el := 3) (vs := [(0, .int .i64 (m : Int))]) (cs := [.int .i64 (m : Int)]) rfl (fun w => by kernel_rfl)) rfl rfl rfl ?_
                        rintro _ w137 ac ⟨g136, rfl, nb138⟩ F
                        have n140 := nb138.num
                        have z141 := nb138.size
                        have hsz := (nb138.kp).size
                        replace hb5 := hb5.keep (nb138.kp) (by simp)
                        replace hb11 := hb11.keep (nb138.kp) (by simp)
                        replace hb17 := hb17.keep (nb138.kp) (by simp)
                        replace hb36 := hb36.keep (nb138.kp) (by simp)
                        replace hb54 := hb54.keep (nb138.kp) (by simp)
                        replace hb97 := hb97.keep (nb138.kp) (by simp)
                        replace hIR := hIR.keep (nb138.kp) (by simp)
                        replace kp0 := kp0.trans (nb138.kp) (by simp)
                        have hb139 : Blk w137 g136 3 ([.int .i64 (m : Int)]) := nb138.blk
                        have hQl := outK_len (left := (uandn mem gone)) (L := (fun p => (R p).l)) (p := p) (k := m)
                        rw [← hQp] at hQl
                        have hbs := hIR.bs
                        refine stpE F (f_append1k (sz := 1) (v := .int .i64 (m : Int)) (vs := ivs (Q p).l) (bytes := 8) rfl (by simp) rfl Try.underlying23 (i := Try.t3) (by kernel_rfl) rfl rfl rfl rfl (by decide) (hIR.own p (by omega)) hb139 rfl (by simp [Value.cells, Value.oneCell']) (by omega) (by omega) hbs) rfl rfl rfl ?_
                        rintro _ w142 ac ⟨A144, c145, rfl, ho2, kq143, hbl⟩ F
                        have hsz := kq143.size
                        replace hb5 := hb5.keep kq143 (fun hx => by have := hIR.ge (show p < 6 by omega) hx; omega)
                        replace hb11 := hb11.keep kq143 (fun hx => by have := hIR.ge (show p < 6 by omega) hx; omega)
                        replace hb17 := hb17.keep kq143 (fun hx => by have := hIR.ge (show p < 6 by omega) hx; omega)
                        replace hb36 := hb36.keep kq143 (fun hx => by have := hIR.ge (show p < 6 by omega) hx; omega)
                        replace hb54 := hb54.keep kq143 (fun hx => by have := hIR.ge (show p < 6 by omega) hx; omega)
                        replace hb97 := hb97.keep kq143 (fun hx => by have := hIR.ge (show p < 6 by omega) hx; omega)
                        replace kp0 := kp0.trans kq143 (by intro x hx hl; have := hIR.ge (show p < 6 by omega) hx; omega)
                        replace hIR := hIR.app (l' := (Q p).l ++ [(m : Int)]) (show p < 6 by omega) kq143 (by simpa using ho2) hbl
                        replace F := F.setv (k := 104) (v' := .slice A144 (((Q p).l ++ [(m : Int)]).length) c145) rfl (by simp)
                        refine stp F (f_indexA (r := ⟨g95, p * 1, none⟩) rfl rfl Try.underlying68 Try.sizeOf23 (by omega) (by omega) (add_eq (by omega))) rfl rfl rfl (fun ac F => ?_)
                        refine stpW F (f_store (v := .slice A144 (((Q p).l ++ [(m : Int)]).length) c145) (vs := [.slice A144 (((Q p).l ++ [(m : Int)]).length) c145]) rfl rfl hb97 Try.sizeOf23 rfl rfl (by rw [rows6_len]; simp; omega) (by simp [plainV])) rfl rfl ?_
                        rintro w146 ac wr147 F
                        have z148 := wr147.size
                        have hsz := (wr147.kp).size
                        replace hb5 := hb5.keep (wr147.kp) (by have := hb5.lt; simp; omega)
                        replace hb11 := hb11.keep (wr147.kp) (by have := hb11.lt; simp; omega)
                        replace hb17 := hb17.keep (wr147.kp) (by have := hb17.lt; simp; omega)
                        replace hb36 := hb36.keep (wr147.kp) (by have := hb36.lt; simp; omega)
                        replace hb54 := hb54.keep (wr147.kp) (by have := hb54.lt; simp; omega)
                        replace hIR := hIR.keep (wr147.kp) (by intro y hy; simp at hy; omega)
                        replace kp0 := kp0.trans (wr147.kp) (by intro x hx hl; simp at hx; omega)
                        replace hb97 : Blk w146 g95 68 (rows6 (upd Q p ⟨A144, c145, (Q p).l ++ [(m : Int)]⟩)) := ((wr147.blk).eqv (r6_put (p := p) (r := ⟨A144, c145, (Q p).l ++ [(m : Int)]⟩) (by omega) rfl))
                        refine stpEnd ?_
                        refine H126 _ _ ?_
                        refine c_region ?_
                        refine stp F (f_add (r := ((m + 1 : Nat) : Int)) rfl rfl (by rw [IntKind.wrap_i64]; omega)) rfl rfl rfl (fun ac F => ?_)
                        refine stp F (f_move rfl) rfl rfl rfl (fun ac F => ?_)
                        refine stpEnd ?_
                        refine ⟨30 - (m + 1), ?_, (m + 1), (upd Q p ⟨A144, c145, (Q p).l ++ [(m : Int)]⟩), F.sub ⟨rfl, rfl, rfl, rfl, rfl, rfl, rfl, rfl, rfl, rfl, rfl, trivial⟩, kp0, hb5, hb11, hb17, hb36, hb54, hb97, hIR, by omega, fun q hq => by rw [upd_off0 (by omega)]; exact hQ q hq, by rw [upd_at0]; show (Q p).l ++ [(m : Int)] = _; rw [hQp]; exact (outK_yes (by exact ⟨by unfold Al; omega, (hb6 m hm30).1 hc131, fun h_ => hc135 (hb2.2 (mem_getD.2 h_))⟩)).symm, fun q hq => by rw [upd_off0 (by omega)]; exact hQ0 q hq, rfl⟩
                        omega
                    · have hc := hc132
                      replace F := F.setb (k := 87) (b' := false) rfl (decide_eq_false hc)
                      replace F := F.setb (k := 88) (b' := false) rfl (decide_eq_false hc)
                      replace F := F.setb (k := 89) (b' := false) rfl (decide_eq_false hc)
                      clear hc
                      refine stpN F rfl rfl rfl (fun ac F => ?_)
                      refine stpN F rfl rfl rfl (fun ac F => ?_)
                      refine stpN F rfl rfl rfl (fun ac F => ?_)
                      refine stpN F rfl rfl rfl (fun ac F => ?_)
                      refine stpN F rfl rfl rfl (fun ac F => ?_)
                      refine stpN F rfl rfl rfl (fun ac F => ?_)
                      refine stpN F rfl rfl rfl (fun ac F => ?_)
                      refine stp F (f_pickF rfl rfl) rfl rfl rfl (fun ac F => ?_)
                      refine stpEnd ?_
                      skip
                      refine H130 _ _ ?_
                      refine c_false F rfl ?_
                      refine wp_skip ?_
                      refine H126 _ _ ?_
                      refine c_region ?_
                      refine stp F (f_add (r := ((m + 1 : Nat) : Int)) rfl rfl (by rw [IntKind.wrap_i64]; omega)) rfl rfl rfl (fun ac F => ?_)
                      refine stp F (f_move rfl) rfl rfl rfl (fun ac F => ?_)
                      refine stpEnd ?_
                      refine ⟨30 - (m + 1), ?_, (m + 1), Q, F.sub ⟨rfl, rfl, rfl, rfl, rfl, rfl, rfl, rfl, rfl, rfl, rfl, trivial⟩, kp0, hb5, hb11, hb17, hb36, hb54, hb97, hIR, by omega, hQ, by rw [hQp]; exact (outK_no (by exact fun h_ => by have h1_ := h_.1; unfold Al at h1_; omega)).symm, hQ0, rfl⟩
                      omega
                  · have hc := hc131
                    replace F := F.setb (k := 80) (b' := false) rfl (Bool.eq_false_iff.2 hc)
                    replace F := F.setb (k := 19) (b' := false) rfl (Bool.eq_false_iff.2 hc)
                    replace F := F.setb (k := 81) (b' := false) rfl (Bool.eq_false_iff.2 hc)
                    replace F := F.setb (k := 82) (b' := false) rfl (Bool.eq_false_iff.2 hc)
                    clear hc
                    refine stpN F rfl rfl rfl (fun ac F => ?_)
                    refine stpN F rfl rfl rfl (fun ac F => ?_)
                    refine stpN F rfl rfl rfl (fun ac F => ?_)
                    refine stpN F rfl rfl rfl (fun ac F => ?_)
                    refine stpN F rfl rfl rfl (fun ac F => ?_)
                    refine stp F (f_pickF rfl rfl) rfl rfl rfl (fun ac F => ?_)
                    refine stp F (f_move rfl) rfl rfl rfl (fun ac F => ?_)
                    refine stpN F rfl rfl rfl (fun ac F => ?_)
                    refine stpN F rfl rfl rfl (fun ac F => ?_)
                    refine stpN F rfl rfl rfl (fun ac F => ?_)
                    refine stpN F rfl rfl rfl (fun ac F => ?_)
                    refine stpN F rfl rfl rfl (fun ac F => ?_)
                    refine stpN F rfl rfl rfl (fun ac F => ?_)
                    refine stpN F rfl rfl rfl (fun ac F => ?_)
                    refine stp F (f_pickF rfl rfl) rfl rfl rfl (fun ac F => ?_)
                    refine stpEnd ?_
                    skip
                    refine H130 _ _ ?_
                    refine c_false F rfl ?_
                    refine wp_skip ?_
                    refine H126 _ _ ?_
                    refine c_region ?_
                    refine stp F (f_add (r := ((m + 1 : Nat) : Int)) rfl rfl (by rw [IntKind.wrap_i64]; omega)) rfl rfl rfl (fun ac F => ?_)
                    refine stp F (f_move rfl) rfl rfl rfl (fun ac F => ?_)
                    refine stpEnd ?_
                    refine ⟨30 - (m + 1), ?_, (m + 1), Q, F.sub ⟨rfl, rfl, rfl, rfl, rfl, rfl, rfl, rfl, rfl, rfl, rfl, trivial⟩, kp0, hb5, hb11, hb17, hb36, hb54, hb97, hIR, by omega, hQ, by rw [hQp]; exact (outK_no (by exact fun h_ => hc131 ((hb6 m hm30).2 h_.2.1))).symm, hQ0, rfl⟩
                    omega
                · have hc := hc124
                  replace F := F.setb (k := 78) (b' := false) rfl (decide_eq_false hc)
                  clear hc
                  refine c_false F rfl ?_
                  refine wp_exit ?_
                  refine H113 _ _ ?_
                  refine c_region ?_
                  refine stp F (f_add (r := ((p + 1 : Nat) : Int)) rfl rfl (by rw [IntKind.wrap_i64]; omega)) rfl rfl rfl (fun ac F => ?_)
                  refine stp F (f_move rfl) rfl rfl rfl (fun ac F => ?_)
                  refine stpEnd ?_
                  refine ⟨6 - (p + 1), ?_, (p + 1), Q, F.sub ⟨rfl, rfl, rfl, rfl, rfl, rfl, rfl, rfl, trivial⟩, kp0, hb5, hb11, hb17, hb36, hb54, hb97, hIR, by omega, upto_next hQ (by rw [hQp, show m = 30 from by omega]), fun q hq => hQ0 q (by omega), rfl⟩
                  omega
            · have hc := hc111
              replace F := F.setb (k := 74) (b' := false) rfl (decide_eq_false hc)
              clear hc
              refine c_false F rfl ?_
              refine wp_exit ?_
              refine H102 _ _ ?_
              refine c_seq (fun K149 H150 => ?_)
              have lt_hb5 := hb5.lt
              have lt_hb11 := hb11.lt
              have lt_hb17 := hb17.lt
              have lt_hb36 := hb36.lt
              have lt_hb54 := hb54.lt
              have lt_hb97 := hb97.lt
              refine c_drawH [0, 1, 2, 3, 4, 5] [] (fun i => [.quiet, .pure, .quiet, .big, .own, .pure].getD i .pure) ([g9] : List Nat) wl105.heap.size (by intro x hx; simp at hx; omega) (by rfl) (by decide +kernel) (fun wx => Kp [g9] wl105 wx) (fun wx => Kp [g9] wl105 wx ∧ Blk wx g9 70 ([.int .i64 0, .int .u8 0, .int .u8 0, .slice none 0 0, .slice none 0 0, .slice none 0 0, .slice none 0 0, .slice none 0 0, .slice none 0 0]) ∧ Blk wx g15 68 ([.slice none 0 0, .slice none 0 0, .slice none 0 0, .slice none 0 0, .slice none 0 0, .slice none 0 0])) (⟨fun wa wb hC_ kk => by obtain ⟨hq, hb11, hb17⟩ := hC_; exact ⟨hq.trans kk (by simp), hb11.keep kk (by simp), hb17.keep kk (by simp)⟩, fun wa hC_ => hC_.1.size⟩) (⟨Kp.mono (Kp.drew _) (by simp), hb11.keep (Kp.drew _) (by simp), hb17.keep (Kp.drew _) (by simp)⟩) ?_
              refine gQ F rfl (fun wq hq => f_loadN rfl Try.isAgg67 Try.sizeOf67 (hb36.keep hq (by have := hb36.lt; simp; omega)).rdAll) (fun _ h => h.1) rfl rfl rfl (fun ac F => ?_)
              refine gP F rfl (fun wq => f_build (vs := [(0, .agg #[.int .i64 ((nextR num mem gone come).num), .int .u8 (((nextR num mem gone come).mem : Nat) : Int)])]) (v := .agg #[.int .i64 ((nextR num mem gone come).num), .int .u8 (((nextR num mem gone come).mem : Nat) : Int), .int .u8 0, .slice none 0 0, .slice none 0 0, .slice none 0 0, .slice none 0 0, .slice none 0 0, .slice none 0 0]) rfl (fun w => by kernel_rfl)) rfl rfl rfl (fun ac F => ?_)
              refine gQ F rfl (fun wq hq => f_loadN rfl Try.isAgg68 Try.sizeOf68 ((hb97.keep hq (by have := hb97.lt; simp; omega)).rd (o := 0) (v := .agg #[.slice ((Q 0).A) ((Q 0).l.length) ((Q 0).c), .slice ((Q 1).A) ((Q 1).l.length) ((Q 1).c), .slice ((Q 2).A) ((Q 2).l.length) ((Q 2).c), .slice ((Q 3).A) ((Q 3).l.length) ((Q 3).c), .slice ((Q 4).A) ((Q 4).l.length) ((Q 4).c), .slice ((Q 5).A) ((Q 5).l.length) ((Q 5).c)]) rfl (by intro j u hu; exact part_at (ps := [.slice ((Q 0).A) ((Q 0).l.length) ((Q 0).c), .slice ((Q 1).A) ((Q 1).l.length) ((Q 1).c), .slice ((Q 2).A) ((Q 2).l.length) ((Q 2).c), .slice ((Q 3).A) ((Q 3).l.length) ((Q 3).c), .slice ((Q 4).A) ((Q 4).l.length) ((Q 4).c), .slice ((Q 5).A) ((Q 5).l.length) ((Q 5).c)]) (by rfl) (by simpa [Value.cells] using hu)))) (fun _ h => h.1) rfl rfl rfl (fun ac F => ?_)
              refine gS (gb := g9) F rfl (by simp) (fun wx => Kp [g9] wl105 wx ∧ Blk wx g9 70 ([.int .i64 ((nextR num mem gone come).num), .int .u8 (((nextR num mem gone come).mem : Nat) : Int), .int .u8 0, .slice none 0 0, .slice none 0 0, .slice none 0 0, .slice none 0 0, .slice none 0 0, .slice none 0 0]) ∧ Blk wx g15 68 ([.slice none 0 0, .slice none 0 0, .slice none 0 0, .slice none 0 0, .slice none 0 0, .slice none 0 0])) (fun wq hC_ => by obtain ⟨hq, hb11, hb17⟩ := hC_; exact f_store (v := .agg #[.int .i64 ((nextR num mem gone come).num), .int .u8 (((nextR num mem gone come).mem : Nat) : Int), .int .u8 0, .slice none 0 0, .slice none 0 0, .slice none 0 0, .slice none 0 0, .slice none 0 0, .slice none 0 0]) (vs := [.int .i64 ((nextR num mem gone come).num), .int .u8 (((nextR num mem gone come).mem : Nat) : Int), .int .u8 0, .slice none 0 0, .slice none 0 0, .slice none 0 0, .slice none 0 0, .slice none 0 0, .slice none 0 0]) rfl rfl hb11 Try.sizeOf70 rfl rfl (by simp) (by simp [plainV])) (⟨fun wa wb hC_ kk => by obtain ⟨hq, hb11, hb17⟩ := hC_; exact ⟨hq.trans kk (by simp), hb11.keep kk (by simp), hb17.keep kk (by simp)⟩, fun wa hC_ => hC_.1.size⟩) (fun _ h => h.1) (fun wa wb hC_ wr_ => by obtain ⟨hq, hb11, hb17⟩ := hC_; exact ⟨(hq.mono (by intro x hx _; first | exact hx | (simp at hx; simp [hx]; done) | (simp [hx]; done) | simp at hx)).trans wr_.kp (by intro x hx hl; simp at hx; first | omega | simp [hx]), wr_.blk, hb17.keep wr_.kp (by have := hb17.lt; simp; omega)⟩) rfl rfl (fun ac F => ?_)
              refine gO F rfl (fun wx => Kp [g9, g15] wl105 wx ∧ Blk wx g9 70 ([.int .i64 ((nextR num mem gone come).num), .int .u8 (((nextR num mem gone come).mem : Nat) : Int), .int .u8 0, .slice none 0 0, .slice none 0 0, .slice none 0 0, .slice none 0 0, .slice none 0 0, .slice none 0 0]) ∧ Blk wx g15 68 ([.slice ((Q 0).A) ((Q 0).l.length) ((Q 0).c), .slice ((Q 1).A) ((Q 1).l.length) ((Q 1).c), .slice ((Q 2).A) ((Q 2).l.length) ((Q 2).c), .slice ((Q 3).A) ((Q 3).l.length) ((Q 3).c), .slice ((Q 4).A) ((Q 4).l.length) ((Q 4).c), .slice ((Q 5).A) ((Q 5).l.length) ((Q 5).c)])) (fun wq hC_ => by obtain ⟨hq, hb11, hb17⟩ := hC_; exact f_store (v := .agg #[.slice ((Q 0).A) ((Q 0).l.length) ((Q 0).c), .slice ((Q 1).A) ((Q 1).l.length) ((Q 1).c), .slice ((Q 2).A) ((Q 2).l.length) ((Q 2).c), .slice ((Q 3).A) ((Q 3).l.length) ((Q 3).c), .slice ((Q 4).A) ((Q 4).l.length) ((Q 4).c), .slice ((Q 5).A) ((Q 5).l.length) ((Q 5).c)]) (vs := [.slice ((Q 0).A) ((Q 0).l.length) ((Q 0).c), .slice ((Q 1).A) ((Q 1).l.length) ((Q 1).c), .slice ((Q 2).A) ((Q 2).l.length) ((Q 2).c), .slice ((Q 3).A) ((Q 3).l.length) ((Q 3).c), .slice ((Q 4).A) ((Q 4).l.length) ((Q 4).c), .slice ((Q 5).A) ((Q 5).l.length) ((Q 5).c)]) rfl rfl hb17 Try.sizeOf68 rfl rfl (by simp) (by simp [plainV])) (⟨fun wa wb hC_ kk => by obtain ⟨hq, hb11, hb17⟩ := hC_; exact ⟨hq.trans kk (by simp), hb11.keep kk (by simp), hb17.keep kk (by simp)⟩, fun wa hC_ => hC_.1.size⟩) (fun wa wb hC_ wr_ => by obtain ⟨hq, hb11, hb17⟩ := hC_; exact ⟨(hq.mono (by intro x hx _; first | exact hx | (simp at hx; simp [hx]; done) | (simp [hx]; done) | simp at hx)).trans wr_.kp (by intro x hx hl; simp at hx; first | omega | simp [hx]), hb11.keep wr_.kp (by have := hb11.lt; simp; omega), wr_.blk⟩) rfl rfl (fun ac F => ?_)
              refine gP F rfl (fun wq => f_assign rfl) rfl rfl rfl (fun ac F => ?_)
              refine gEnd (fun w155 hq => ?_)
              obtain ⟨hq, hn_hb11, hn_hb17⟩ := hq
              have hsz := hq.size
              replace hb5 := hb5.keep hq (by have := hb5.lt; simp; omega)
              replace hb36 := hb36.keep hq (by have := hb36.lt; simp; omega)
              replace hb54 := hb54.keep hq (by have := hb54.lt; simp; omega)
              replace hb97 := hb97.keep hq (by have := hb97.lt; simp; omega)
              replace hIR := hIR.keep hq (by intro y hy; simp at hy; omega)
              replace kp0 := kp0.trans hq (by intro x hx hl; simp at hx; omega)
              replace hb11 : Blk w155 g9 70 ([.int .i64 ((nextR num mem gone come).num), .int .u8 (((nextR num mem gone come).mem : Nat) : Int), .int .u8 0, .slice none 0 0, .slice none 0 0, .slice none 0 0, .slice none 0 0, .slice none 0 0, .slice none 0 0]) := hn_hb11
              replace hb17 : Blk w155 g15 68 ([.slice ((Q 0).A) ((Q 0).l.length) ((Q 0).c), .slice ((Q 1).A) ((Q 1).l.length) ((Q 1).c), .slice ((Q 2).A) ((Q 2).l.length) ((Q 2).c), .slice ((Q 3).A) ((Q 3).l.length) ((Q 3).c), .slice ((Q 4).A) ((Q 4).l.length) ((Q 4).c), .slice ((Q 5).A) ((Q 5).l.length) ((Q 5).c)]) := hn_hb17
              refine stpEnd ?_
              refine H150 _ _ ?_
              refine wp_ret ?_
              refine retR3 F rfl ⟨_, rfl, run_loadVarN Try.isAgg70 Try.sizeOf70 hb11.rdAll⟩ ⟨_, rfl, run_loadVarN Try.isAgg68 Try.sizeOf68 hb17.rdAll⟩ rfl ?_
              exact .inr ⟨hOk, hc47, Q, rfl, kp0, fun q hq => (hIR.own q hq).more (by omega), fun q hq => hQ q (by omega)⟩
    · have hc := hc47
      replace F := F.setb (k := 37) (b' := true) rfl (nf (decide_eq_false hc))
      clear hc
      refine c_true F rfl ?_
      refine c_seq (fun K156 H157 => ?_)
      refine c_region ?_
      refine stp F (f_build (vs := []) (v := .agg #[.int .i64 0, .int .u8 0, .int .u8 0, .slice none 0 0, .slice none 0 0, .slice none 0 0, .slice none 0 0, .slice none 0 0, .slice none 0 0]) rfl (fun w => by kernel_rfl)) rfl rfl rfl (fun ac F => ?_)
      refine stp F (f_build (vs := []) (v := .agg #[.slice none 0 0, .slice none 0 0, .slice none 0 0, .slice none 0 0, .slice none 0 0, .slice none 0 0]) rfl (fun w => by kernel_rfl)) rfl rfl rfl (fun ac F => ?_)
      refine stp F (f_move rfl) rfl rfl rfl (fun ac F => ?_)
      refine stpW F (f_store (v := .agg #[.int .i64 0, .int .u8 0, .int .u8 0, .slice none 0 0, .slice none 0 0, .slice none 0 0, .slice none 0 0, .slice none 0 0, .slice none 0 0]) (vs := [.int .i64 0, .int .u8 0, .int .u8 0, .slice none 0 0, .slice none 0 0, .slice none 0 0, .slice none 0 0, .slice none 0 0, .slice none 0 0]) rfl rfl hb11 Try.sizeOf70 rfl rfl (by simp) (by simp [plainV])) rfl rfl ?_
      rintro w158 ac wr159 F
      have z160 := wr159.size
      have hsz := (wr159.kp).size
      replace hb5 := hb5.keep (wr159.kp) (by have := hb5.lt; simp; omega)
      replace hb17 := hb17.keep (wr159.kp) (by have := hb17.lt; simp; omega)
      replace hb36 := hb36.keep (wr159.kp) (by have := hb36.lt; simp; omega)
      replace kp0 := kp0.trans (wr159.kp) (by intro x hx hl; simp at hx; omega)
      replace hb11 : Blk w158 g9 70 ([.int .i64 0, .int .u8 0, .int .u8 0, .slice none 0 0, .slice none 0 0, .slice none 0 0, .slice none 0 0, .slice none 0 0, .slice none 0 0]) := wr159.blk
      refine stpW F (f_store (v := .agg #[.slice none 0 0, .slice none 0 0, .slice none 0 0, .slice none 0 0, .slice none 0 0, .slice none 0 0]) (vs := [.slice none 0 0, .slice none 0 0, .slice none 0 0, .slice none 0 0, .slice none 0 0, .slice none 0 0]) rfl rfl hb17 Try.sizeOf68 rfl rfl (by simp) (by simp [plainV])) rfl rfl ?_
      rintro w161 ac wr162 F
      have z163 := wr162.size
      have hsz := (wr162.kp).size
      replace hb5 := hb5.keep (wr162.kp) (by have := hb5.lt; simp; omega)
      replace hb11 := hb11.keep (wr162.kp) (by have := hb11.lt; simp; omega)
      replace hb36 := hb36.keep (wr162.kp) (by have := hb36.lt; simp; omega)
      replace kp0 := kp0.trans (wr162.kp) (by intro x hx hl; simp at hx; omega)
      replace hb17 : Blk w161 g15 68 ([.slice none 0 0, .slice none 0 0, .slice none 0 0, .slice none 0 0, .slice none 0 0, .slice none 0 0]) := wr162.blk
      refine stp F (f_assign rfl) rfl rfl rfl (fun ac F => ?_)
      refine stpEnd ?_
      refine H157 _ _ ?_
      refine wp_ret ?_
      refine retR3 F rfl ⟨_, rfl, run_loadVarN Try.isAgg70 Try.sizeOf70 hb11.rdAll⟩ ⟨_, rfl, run_loadVarN Try.isAgg68 Try.sizeOf68 hb17.rdAll⟩ rfl ?_
      exact .inl ⟨_, hc47, fun _ => hc47, rfl, kp0⟩
  · have hc := hc29
    replace F := F.setb (k := 23) (b' := true) rfl (nf (decide_eq_false hc))
    clear hc
    refine c_true F rfl ?_
    refine c_seq (fun K164 H165 => ?_)
    refine c_region ?_
    refine stp F (f_build (vs := []) (v := .agg #[.int .i64 0, .int .u8 0, .int .u8 0, .slice none 0 0, .slice none 0 0, .slice none 0 0, .slice none 0 0, .slice none 0 0, .slice none 0 0]) rfl (fun w => by kernel_rfl)) rfl rfl rfl (fun ac F => ?_)
    refine stp F (f_build (vs := []) (v := .agg #[.slice none 0 0, .slice none 0 0, .slice none 0 0, .slice none 0 0, .slice none 0 0, .slice none 0 0]) rfl (fun w => by kernel_rfl)) rfl rfl rfl (fun ac F => ?_)
    refine stp F (f_move rfl) rfl rfl rfl (fun ac F => ?_)
    refine stpW F (f_store (v := .agg #[.int .i64 0, .int .u8 0, .int .u8 0, .slice none 0 0, .slice none 0 0, .slice none 0 0, .slice none 0 0, .slice none 0 0, .slice none 0 0]) (vs := [.int .i64 0, .int .u8 0, .int .u8 0, .slice none 0 0, .slice none 0 0, .slice none 0 0, .slice none 0 0, .slice none 0 0, .slice none 0 0]) rfl rfl hb11 Try.sizeOf70 rfl rfl (by simp) (by simp [plainV])) rfl rfl ?_
    rintro w166 ac wr167 F
    have z168 := wr167.size
    have hsz := (wr167.kp).size
    replace hb5 := hb5.keep (wr167.kp) (by have := hb5.lt; simp; omega)
    replace hb17 := hb17.keep (wr167.kp) (by have := hb17.lt; simp; omega)
    replace kp0 := kp0.trans (wr167.kp) (by intro x hx hl; simp at hx; omega)
    replace hb11 : Blk w166 g9 70 ([.int .i64 0, .int .u8 0, .int .u8 0, .slice none 0 0, .slice none 0 0, .slice none 0 0, .slice none 0 0, .slice none 0 0, .slice none 0 0]) := wr167.blk
    refine stpW F (f_store (v := .agg #[.slice none 0 0, .slice none 0 0, .slice none 0 0, .slice none 0 0, .slice none 0 0, .slice none 0 0]) (vs := [.slice none 0 0, .slice none 0 0, .slice none 0 0, .slice none 0 0, .slice none 0 0, .slice none 0 0]) rfl rfl hb17 Try.sizeOf68 rfl rfl (by simp) (by simp [plainV])) rfl rfl ?_
    rintro w169 ac wr170 F
    have z171 := wr170.size
    have hsz := (wr170.kp).size
    replace hb5 := hb5.keep (wr170.kp) (by have := hb5.lt; simp; omega)
    replace hb11 := hb11.keep (wr170.kp) (by have := hb11.lt; simp; omega)
    replace kp0 := kp0.trans (wr170.kp) (by intro x hx hl; simp at hx; omega)
    replace hb17 : Blk w169 g15 68 ([.slice none 0 0, .slice none 0 0, .slice none 0 0, .slice none 0 0, .slice none 0 0, .slice none 0 0]) := wr170.blk
    refine stp F (f_assign rfl) rfl rfl rfl (fun ac F => ?_)
    refine stpEnd ?_
    refine H165 _ _ ?_
    refine wp_ret ?_
    refine retR3 F rfl ⟨_, rfl, run_loadVarN Try.isAgg70 Try.sizeOf70 hb11.rdAll⟩ ⟨_, rfl, run_loadVarN Try.isAgg68 Try.sizeOf68 hb17.rdAll⟩ rfl ?_
    exact .inl ⟨e, hc29, fun hOk => absurd (hev.2 hOk) hc29, rfl, kp0⟩

end Go.Proofs.Ytkbngaollbmcbaa.KK

namespace Go.Proofs.Ytkbngaollbmcbaa.KK
open Go Go.RowKit

/-- append of a row of ints to an own one. -/
theorem f_appendI {n : Nat} {l : List (Nat × Value)} {w : World} {s x : Operand} {d t p e g} {base lo hi : Nat} {A B : Option Addr} {c d2 : Nat} {vs us : List Int} (hs : evl l s = some (.slice A vs.length c)) (hx : evl l x = some (.slice B us.length d2))
    (h1 : Own w base 3 1 A c (ivs vs)) (h2 : Sl w lo hi 1 B us.length d2 (nvv us)) (hln : vs.length + us.length ≤ 1000000000000) (hbase : base ≤ w.heap.size) :
    FiresE Try.prog ⟨d, .call { callee := .builtin .append, args := #[s, x], argTypes := #[23, 23] }, t, p, e, g⟩ n l w
      (fun r w' => ∃ A' c', r = .slice A' (vs ++ us).length c' ∧ Own w' base 3 1 A' c' (ivs (vs ++ us)) ∧ Kp (ob A) w w' ∧ (ob A' = ob A ∨ ob A' = [w.heap.size])) := by
  rcases Nat.eq_zero_or_pos us.length with h0 | h0
  · obtain rfl := List.eq_nil_of_length_eq_zero h0
    intro a F
    have hf := f_append0 (w := w) (n := n) (P := Try.prog) (d := d) (t := t) (p := p) (e := e) (g := g) hs hx Try.underlying23 Try.sizeOf3 (by have := h1.2.2; simpa using this) a F
    exact ⟨_, w, hf, A, c, by simp, by simpa using h1, Kp.refl _ _, .inl rfl⟩
  · obtain ⟨ad, rfl⟩ : ∃ ad, B = some ad := by
      cases B with
      | none => have h_ := (h2.some_ h0).1; cases h_
      | some ad => exact ⟨ad, rfl⟩
    refine FiresE.mono (f_appendN (sz := 1) (vs := ivs vs) (us := ivs us) (ad := ad) (bytes := 8) (z := .int .i64 0) (by rw [List.length_map]; exact hs) (by rw [List.length_map]; exact hx) Try.underlying23 (i := Try.t3) (by kernel_rfl) (by kernel_rfl) rfl rfl rfl (by decide) h1 (iv_rd h2) (iv_one us) (by simp; omega) (by simp; omega) hbase (.inl (by simp; omega))) (fun v w' h => ?_)
    obtain ⟨A', c', rfl, o, k, hb⟩ := h
    exact ⟨A', c', by simp, by simpa using o, k, hb⟩
theorem blk_ints {w : World} {g : Nat} {l : List Int} {cs : List Value} (h : Blk w g 3 cs) (hc : cs = ivs l) (hl : l.length ≤ 1000) : Sl w 0 w.heap.size 1 (some ⟨g, 0, none⟩) l.length l.length (nvv l) := by
  subst hc
  have ho : Own w 0 3 1 (some ⟨g, 0, none⟩) l.length (ivs l) := Own.shuts (Nat.zero_le _) h (by unfold maxLen; omega) (by simp) (by rw [flat_ivs]; simp [List.take_of_length_le]) (ivs_size l) (by simp)
  exact ho.isl
/-! ### Two rows, one behind the other -/
def szK (Q : Nat → Ri) (k : Nat) : Nat := (if 0 < k then (Q 0).l.length else 0) + (if 1 < k then (Q 1).l.length else 0)
def catK (Q : Nat → Ri) (k : Nat) : List Int := (if 0 < k then (Q 0).l else []) ++ (if 1 < k then (Q 1).l else [])
theorem szK_next {Q : Nat → Ri} {k : Nat} (hk : k < 2) : szK Q (k + 1) = szK Q k + (Q k).l.length := by
  have : k = 0 ∨ k = 1 := by omega
  rcases this with rfl | rfl <;> simp [szK]
theorem catK_next {Q : Nat → Ri} {k : Nat} (hk : k < 2) : catK Q (k + 1) = catK Q k ++ (Q k).l := by
  have : k = 0 ∨ k = 1 := by omega
  rcases this with rfl | rfl <;> simp [catK]
theorem catK_len {Q : Nat → Ri} {k : Nat} : (catK Q k).length = szK Q k := by
  unfold catK szK; split <;> split <;> simp
theorem two_get {Q : Nat → Ri} {k o : Nat} (hk : k < 2) (ho : o = k * 1) : ([(Q 0).v, (Q 1).v] : List Value)[o]? = some (Q k).v := by
  subst ho
  have : k = 0 ∨ k = 1 := by omega
  rcases this with rfl | rfl <;> rfl
theorem catK_two {Q : Nat → Ri} : catK Q 2 = (Q 0).l ++ (Q 1).l := rfl

/-! ### The plain law -/
theorem change_ok (num : Int) (mem gone come : Nat) (R : Nat → Ri) (w0 : World) (hmem : mem < 256) (hgone : gone < 256) (hcome : come < 256) (hnum : -9223372036854775808 ≤ num ∧ num ≤ 9223372036854775807)
    (hS : ∀ p : Nat, p < 6 → Sl w0 0 w0.heap.size 1 (R p).A (R p).l.length (R p).c (nvv (R p).l)) (hOk : OkF num mem gone (fun p => (R p).l)) (hne : (nextR num mem gone come).e = 0) :
    Calls Try.prog 31 #[.agg #[.int .i64 num, .int .u8 (mem : Int), .int .u8 (gone : Int), (R 0).v, (R 1).v, (R 2).v, (R 3).v, (R 4).v, (R 5).v], .int .u8 (come : Int)] w0 (Ret fun v w' => ∃ Q : Nat → Ri,
      v = .tuple #[.agg #[.int .i64 (nextR num mem gone come).num, .int .u8 ((nextR num mem gone come).mem : Int), .int .u8 0, .slice none 0 0, .slice none 0 0, .slice none 0 0, .slice none 0 0, .slice none 0 0, .slice none 0 0], .agg #[(Q 0).v, (Q 1).v, (Q 2).v, (Q 3).v, (Q 4).v, (Q 5).v], .int .i64 0] ∧
      Kp [] w0 w' ∧ (∀ q, q < 6 → Own w' w0.heap.size 3 1 (Q q).A (Q q).c (ivs (Q q).l)) ∧ ∀ q, q < 6 → (Q q).l = outK (uandn mem gone) (fun p => (R p).l) q 30) :=
  (change_c num mem gone come R w0 hmem hgone hcome hnum hS).mono fun e w' he => by
    cases e with
    | panicked c => exact he.elim
    | outgrown => exact he.elim
    | returned v =>
      rcases he with ⟨e, _, h2, _⟩ | ⟨_, _, Q, h1, h2, h3, h4⟩
      · exact absurd hne (h2 hOk)
      · exact ⟨Q, h1, h2, h3, h4⟩
theorem change_bad (num : Int) (mem gone come : Nat) (R : Nat → Ri) (w0 : World) (hmem : mem < 256) (hgone : gone < 256) (hcome : come < 256) (hnum : -9223372036854775808 ≤ num ∧ num ≤ 9223372036854775807)
    (hS : ∀ p : Nat, p < 6 → Sl w0 0 w0.heap.size 1 (R p).A (R p).l.length (R p).c (nvv (R p).l)) (hbad : ¬ (OkF num mem gone (fun p => (R p).l) ∧ (nextR num mem gone come).e = 0)) :
    Calls Try.prog 31 #[.agg #[.int .i64 num, .int .u8 (mem : Int), .int .u8 (gone : Int), (R 0).v, (R 1).v, (R 2).v, (R 3).v, (R 4).v, (R 5).v], .int .u8 (come : Int)] w0 (Ret fun v w' => ∃ e : Int, e ≠ 0 ∧
      v = .tuple #[.agg #[.int .i64 0, .int .u8 0, .int .u8 0, .slice none 0 0, .slice none 0 0, .slice none 0 0, .slice none 0 0, .slice none 0 0, .slice none 0 0], .agg #[.slice none 0 0, .slice none 0 0, .slice none 0 0, .slice none 0 0, .slice none 0 0, .slice none 0 0], .int .i64 e] ∧ Kp [] w0 w') :=
  (change_c num mem gone come R w0 hmem hgone hcome hnum hS).mono fun e w' he => by
    cases e with
    | panicked c => exact he.elim
    | outgrown => exact he.elim
    | returned v =>
      rcases he with ⟨e, h1, _, h3, h4⟩ | ⟨h1, h2, _⟩
      · exact ⟨e, h1, h3, h4⟩
      · exact absurd ⟨h1, h2⟩ hbad
theorem next_e {num : Int} {mem gone come : Nat} (h : (nextR num mem gone come).e = 0) : VOk num mem ∧ uor gone come / 2 ^ 6 = 0 ∧ num ≠ 16777215 ∧ pop8 mem < 2 * pop8 (uand (uandn mem gone) mem) ∧ (nextR num mem gone come).num = num + 1 ∧ (nextR num mem gone come).mem = uor (uandn mem gone) come := by
  unfold nextR at h ⊢
  by_cases h1 : 0 ≤ num ∧ num ≤ 16777215 ∧ mem ≠ 0 ∧ mem / 2 ^ 6 = 0
  · rw [if_neg (fun hn => hn h1)] at h ⊢
    by_cases h2 : uor gone come / 2 ^ 6 ≠ 0 ∨ uand gone come ≠ 0
    · rw [if_pos h2] at h; cases h
    · rw [if_neg h2] at h ⊢
      by_cases h3 : num = 16777215
      · rw [if_pos h3] at h; cases h
      · rw [if_neg h3] at h ⊢
        by_cases h4 : pop8 mem < 2 * pop8 (uand (uandn mem gone) mem)
        · rw [if_neg (fun hn => hn h4)]
          exact ⟨h1, by omega, h3, h4, rfl, rfl⟩
        · rw [if_pos h4] at h; cases h
  · rw [if_pos h1] at h; cases h
theorem uand_zero (y : Nat) : uand 0 y = 0 := by unfold uand; simp
theorem uandn_zero (y : Nat) : uandn 0 y = 0 := by unfold uandn; simp
theorem uandn_le {x y : Nat} (h : x < 256) : uandn x y ≤ x := by
  unfold uandn
  rw [BitVec.toNat_and]
  exact Nat.le_trans Nat.and_le_left (by simp; omega)
theorem uor_eq {x y : Nat} (hx : x < 256) (hy : y < 256) : uor x y = x ||| y := by
  unfold uor
  rw [BitVec.toNat_or]
  simp [Nat.mod_eq_of_lt hx, Nat.mod_eq_of_lt hy]
theorem some_al {left : Nat} (h0 : left ≠ 0) (h6 : left < 64) : ∃ q, q < 6 ∧ Al left q := by
  have h := all256 (q := fun x => decide (x = 0 ∨ 64 ≤ x ∨ ∃ q, q < 6 ∧ uand (x / 2 ^ q) 1 = 1)) (by decide +kernel) (show left < 256 by omega)
  have h2 := of_decide_eq_true h
  rcases h2 with h2 | h2 | h2
  · exact absurd h2 h0
  · omega
  · exact h2
theorem left_ne {mem gone : Nat} (h : pop8 mem < 2 * pop8 (uand (uandn mem gone) mem)) : uandn mem gone ≠ 0 := fun e => by
  rw [e, uand_zero, pop8_zero] at h; omega
theorem next_view {num : Int} {mem gone come : Nat} (hmem : mem < 256) (hgone : gone < 256) (hcome : come < 256) (h : (nextR num mem gone come).e = 0) : OkF (nextR num mem gone come).num (nextR num mem gone come).mem 0 (fun p => (nilR p).l) := by
  obtain ⟨h1, h2, h3, h4, h5, h6⟩ := next_e h
  rw [h5, h6]
  have hl := uandn_le (y := gone) hmem
  have hm := h1.2.2.2
  have hlt : uandn mem gone < 2 ^ 6 := by omega
  have hc : come < 2 ^ 6 := by
    rw [uor_eq hgone hcome] at h2
    have : come ≤ gone ||| come := Nat.right_le_or
    omega
  have hor := Nat.or_lt_two_pow hlt hc
  rw [uor_eq (by omega) hcome]
  refine ⟨⟨by have := h1.1; omega, by have := h1.2.1; omega, ?_, by omega⟩, uandn_zero _, fun p hp => ⟨by simp [nilR], by simp [nilR], fun i hi => by simp [nilR] at hi⟩⟩
  have : uandn mem gone ≤ uandn mem gone ||| come := Nat.left_le_or
  have := left_ne h4
  omega
theorem sorted_ext : ∀ (a b : List Int), a.Pairwise (· < ·) → b.Pairwise (· < ·) → (∀ x, x ∈ a ↔ x ∈ b) → a = b
  | [], [], _, _, _ => rfl
  | [], y :: b, _, _, h => absurd ((h y).2 (by simp)) (by simp)
  | x :: a, [], _, _, h => absurd ((h x).1 (by simp)) (by simp)
  | x :: a, y :: b, ha, hb, h => by
    obtain ⟨a1, a2⟩ := List.pairwise_cons.1 ha
    obtain ⟨b1, b2⟩ := List.pairwise_cons.1 hb
    have hxy : x = y := by
      rcases List.mem_cons.1 ((h x).1 (by simp)) with e | e
      · exact e
      · rcases List.mem_cons.1 ((h y).2 (by simp)) with e2 | e2
        · exact e2.symm
        · have := b1 x e; have := a1 y e2; omega
    subst hxy
    rw [sorted_ext a b a2 b2 fun z => ?_]
    constructor
    · intro hz
      rcases List.mem_cons.1 ((h z).1 (by simp [hz])) with e | e
      · have := a1 z hz; omega
      · exact e
    · intro hz
      rcases List.mem_cons.1 ((h z).2 (by simp [hz])) with e | e
      · have := b1 z hz; omega
      · exact e
/-- What all that stay have been told. -/
def allT (left : Nat) (L : Nat → List Int) : List Int := ((List.range 30).filter fun m => decide (AllM left L m)).map Int.ofNat
theorem allT_lt {left : Nat} {L : Nat → List Int} : (allT left L).Pairwise (· < ·) := by
  unfold allT
  rw [List.pairwise_map]
  refine (List.Pairwise.filter _ List.pairwise_lt_range).imp (fun h => ?_)
  exact Int.ofNat_lt.2 h
theorem allT_len {left : Nat} {L : Nat → List Int} : (allT left L).length ≤ 30 := by
  unfold allT; rw [List.length_map]; exact Nat.le_trans (List.length_filter_le _ _) (by simp)
theorem told_same {left mem p : Nat} {L : Nat → List Int} (hp : p < 6) (hr : RowOk mem p (L p)) (hal : Al left p) : sortI (L p ++ outK left L p 30) = allT left L := by
  have hnd : (L p).Pairwise (fun x y => ¬ x = y) := by
    rw [List.pairwise_iff_getElem]
    intro i j hi hj hij e
    have := (hr.2.2 j hj).2 i hij
    simp [hi, hj] at this
    exact this e
  have hon : (outK left L p 30).Pairwise (fun x y => ¬ x = y) := by
    unfold outK
    rw [List.pairwise_map]
    refine (List.Pairwise.filter _ List.pairwise_lt_range).imp (fun h e => ?_)
    have := Int.ofNat.inj e
    omega
  have hall : (L p ++ outK left L p 30).Pairwise (fun x y => ¬ x = y) := by
    refine List.pairwise_append.2 ⟨hnd, hon, fun x hx y hy e => ?_⟩
    subst e
    unfold outK at hy
    obtain ⟨m, hm, rfl⟩ := List.mem_map.1 hy
    have := of_decide_eq_true (List.mem_filter.1 hm).2
    exact this.2.2 hx
  have hperm := sortI_perm (L p ++ outK left L p 30)
  have hsort : (sortI (L p ++ outK left L p 30)).Pairwise (fun x y => decide (x ≤ y) = true) :=
    List.pairwise_mergeSort (fun a b c h1 h2 => by simp at *; omega) (fun a b => by simp; omega) _
  have hne : (sortI (L p ++ outK left L p 30)).Pairwise (fun x y => ¬ x = y) := (hperm.pairwise_iff (fun h e => h e.symm)).2 hall
  have hlt : (sortI (L p ++ outK left L p 30)).Pairwise (· < ·) := (hsort.and hne).imp (fun ⟨h1, h2⟩ => by simp at h1; omega)
  refine sorted_ext _ _ hlt allT_lt fun x => ?_
  rw [hperm.mem_iff, List.mem_append]
  unfold allT
  constructor
  · rintro (h | h)
    · obtain ⟨i, hi, hx⟩ := mem_getD.2 h
      have h3 := (hr.2.2 i hi).1
      rw [hx] at h3
      refine List.mem_map.2 ⟨x.toNat, List.mem_filter.2 ⟨List.mem_range.2 (by omega), decide_eq_true ⟨p, hp, hal, ?_⟩⟩, by simp; omega⟩
      rw [show ((x.toNat : Nat) : Int) = x from by omega]; exact h
    · unfold outK at h
      obtain ⟨m, hm, rfl⟩ := List.mem_map.1 h
      have h2 := of_decide_eq_true (List.mem_filter.1 hm).2
      exact List.mem_map.2 ⟨m, List.mem_filter.2 ⟨(List.mem_filter.1 hm).1, decide_eq_true h2.2.1⟩, rfl⟩
  · intro h
    obtain ⟨m, hm, rfl⟩ := List.mem_map.1 h
    have h2 := of_decide_eq_true (List.mem_filter.1 hm).2
    by_cases hin : Int.ofNat m ∈ L p
    · exact .inl hin
    · refine .inr ?_
      unfold outK
      exact List.mem_map.2 ⟨m, List.mem_filter.2 ⟨(List.mem_filter.1 hm).1, decide_eq_true ⟨hal, h2, hin⟩⟩, rfl⟩
theorem out_none {left p : Nat} {L : Nat → List Int} (h : ¬ Al left p) : outK left L p 30 = [] := by
  unfold outK
  rw [List.filter_eq_nil_iff.2 (fun m _ => by simp [h])]; rfl
theorem lt_next {l : List Int} (h : l.Pairwise (· < ·)) : ∀ k, 1 ≤ k → k < l.length → l.getD k 0 ≠ l.getD (k - 1) 0 := by
  intro k h1 h2
  have := List.pairwise_iff_getElem.1 h (k - 1) k (by omega) h2 (by omega)
  simp [h2, show k - 1 < l.length from by omega]
  omega
end Go.Proofs.Ytkbngaollbmcbaa.KK
