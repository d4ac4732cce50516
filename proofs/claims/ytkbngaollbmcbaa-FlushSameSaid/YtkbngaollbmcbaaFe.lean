/- What the proof leans on: rules for a walk through the code, walks of functions, and plain laws. No condition. -/
import Derived.Test.YtkbngaollbmcbaaFd

namespace Go.Proofs.Ytkbngaollbmcbaa.KK
open Go Go.RowKit

theorem szgrow (n : Nat) (hn : n ≤ 2000) (w : World) : Calls Try.prog 59 #[.slice none 0 0, .int .i64 (n : Int)] w (Ret fun v w' => ∃ A c, v = .slice A 0 c ∧ Kp [] w w' ∧ Own w' w.heap.size 3 1 A c []) := (grow_c n (by omega) w).mono fun e w' h => by
  cases e with
  | returned v => obtain ⟨A, c, h1, h2, h3⟩ := h; exact ⟨A, c, h1, h3, h2⟩
  | panicked c => exact h.elim
  | outgrown => exact h.elim

set_option maxHeartbeats 4000000 in
theorem concat_c (g : Nat) (Q : Nat → Ri) (w0 : World) (hs : Blk w0 g 23 ([(Q 0).v, (Q 1).v])) (hQ : ∀ k : Nat, k < 2 → Sl w0 0 w0.heap.size 1 (Q k).A (Q k).l.length (Q k).c (nvv (Q k).l) ∧ (Q k).l.length ≤ 1000) : Calls Try.prog 32 #[.slice (some ⟨g, 0, none⟩) 2 2] w0 (Ret fun v w' => ∃ A' c', v = .slice A' ((Q 0).l ++ (Q 1).l).length c' ∧ Kp [] w0 w' ∧ Own w' w0.heap.size 3 1 A' c' (ivs ((Q 0).l ++ (Q 1).l))) := by
  refine enter (n := 36) Try.func32 rfl rfl rfl (fun ac F => ?_)
  have kp0 := Kp.refl ([] : List Nat) w0
  refine c_seq (fun K1 H2 => ?_)
  refine c_region ?_
  refine stp F (f_assign rfl) rfl rfl rfl (fun ac F => ?_)
  refine stpEnd ?_
  refine H2 _ _ ?_
  refine c_seq (fun K3 H4 => ?_)
  refine c_region ?_
  refine stp F (f_assign rfl) rfl rfl rfl (fun ac F => ?_)
  refine stpEnd ?_
  refine H4 _ _ ?_
  refine c_seq (fun K5 H6 => ?_)
  refine c_seq (fun K7 H8 => ?_)
  refine c_region ?_
  refine stp F (f_move rfl) rfl rfl rfl (fun ac F => ?_)
  refine stp F (f_len rfl Try.underlying48) rfl rfl rfl (fun ac F => ?_)
  refine stp F (f_move rfl) rfl rfl rfl (fun ac F => ?_)
  refine stpEnd ?_
  refine H8 _ _ ?_
  refine wp_block ?_
  refine c_loop (fun mx ax wx => ∃ (k : Nat), Fr ax 36 [(0, .slice (some ⟨g, 0, none⟩) 2 2), (9, .slice (some ⟨g, 0, none⟩) 2 2), (10, .int .i64 2), (11, .int .i64 (k : Int)), (3, .int .i64 ((szK Q k : Nat) : Int))] ∧ Kp [] w0 wx ∧ Blk wx g 23 ([(Q 0).v, (Q 1).v]) ∧ (k ≤ 2) ∧ (szK Q k ≤ 1000 * k) ∧ mx = 2 - k) (2 - 0) ?_ ?_
  · exact ⟨0, F.sub ⟨rfl, rfl, rfl, rfl, rfl, trivial⟩, kp0, hs, by omega, by simp [szK], rfl⟩
  · clear F kp0 hs
    rintro m10 ac wl9 ⟨k, F, kp0, hs, hk, hsz0, hm⟩
    have hsz := kp0.size
    have lt_hs := hs.lt
    refine c_seq (fun K11 H12 => ?_)
    refine c_region ?_
    refine stp F (f_lss rfl rfl) rfl rfl rfl (fun ac F => ?_)
    refine stpEnd ?_
    refine H12 _ _ ?_
    refine c_seq (fun K13 H14 => ?_)
    by_cases hc15 : (k : Int) < 2
    · have hc := hc15
      replace F := F.setb (k := 12) (b' := true) rfl (decide_eq_true hc)
      clear hc
      refine c_true F rfl ?_
      refine wp_skip ?_
      refine H14 _ _ ?_
      refine c_seq (fun K16 H17 => ?_)
      refine wp_block ?_
      refine c_seq (fun K18 H19 => ?_)
      refine c_region ?_
      refine stp F (f_indexS (r := ⟨g, k * 1, none⟩) rfl rfl Try.underlying48 Try.sizeOf23 (by omega) (by omega) rfl (add_eq (by omega))) rfl rfl rfl (fun ac F => ?_)
      refine stp F (f_load1 (v := .slice ((Q k).A) ((Q k).l.length) ((Q k).c)) rfl Try.isAgg23 ((hs.cell _).trans (two_get (k := k) (by omega) rfl))) rfl rfl rfl (fun ac F => ?_)
      refine stp F (f_assign rfl) rfl rfl rfl (fun ac F => ?_)
      refine stpEnd ?_
      refine H19 _ _ ?_
      refine c_seq (fun K20 H21 => ?_)
      have hzk := szK_next (Q := Q) (k := k) (by omega)
      have hqk := (hQ k (by omega)).2
      refine c_region ?_
      refine stp F (f_move rfl) rfl rfl rfl (fun ac F => ?_)
      refine stp F (f_move rfl) rfl rfl rfl (fun ac F => ?_)
      refine stp F (f_len rfl Try.underlying23) rfl rfl rfl (fun ac F => ?_)
      refine stp F (f_add (r := ((szK Q (k + 1) : Nat) : Int)) rfl rfl (by rw [IntKind.wrap_i64]; omega)) rfl rfl rfl (fun ac F => ?_)
      refine stp F (f_assign rfl) rfl rfl rfl (fun ac F => ?_)
      refine stpEnd ?_
      refine H21 _ _ ?_
      refine c_seq (fun K22 H23 => ?_)
      refine c_region ?_
      refine stp F (f_move rfl) rfl rfl rfl (fun ac F => ?_)
      refine stp F (f_lss rfl rfl) rfl rfl rfl (fun ac F => ?_)
      refine stpEnd ?_
      refine H23 _ _ ?_
      have hc : ¬ (((szK Q (k + 1) : Nat) : Int) < 0) := by omega
      replace F := F.setb (k := 20) (b' := false) rfl (decide_eq_false hc)
      refine c_false F rfl ?_
      refine wp_skip ?_
      refine H17 _ _ ?_
      refine c_region ?_
      refine stp F (f_add (r := ((k + 1 : Nat) : Int)) rfl rfl (by rw [IntKind.wrap_i64]; omega)) rfl rfl rfl (fun ac F => ?_)
      refine stp F (f_move rfl) rfl rfl rfl (fun ac F => ?_)
      refine stpEnd ?_
      refine ⟨2 - (k + 1), ?_, (k + 1), F.sub ⟨rfl, rfl, rfl, rfl, rfl, trivial⟩, kp0, hs, by omega, by omega, rfl⟩
      omega
    · have hc := hc15
      replace F := F.setb (k := 12) (b' := false) rfl (decide_eq_false hc)
      clear hc
      refine c_false F rfl ?_
      refine wp_exit ?_
      refine H6 _ _ ?_
      refine c_seq (fun K24 H25 => ?_)
      refine c_region ?_
      refine stp F (f_move rfl) rfl rfl rfl (fun ac F => ?_)
      have hk2 : k = 2 := by omega
      subst hk2
      refine stpC F (f_call (P := Try.prog) (f := 59) (vs := [.slice none 0 0, .int .i64 ((szK Q 2 : Nat) : Int)]) rfl Try.call59) (szgrow (szK Q 2) (by omega) _) rfl rfl rfl ?_
      rintro _ w26 ac ⟨A1, c1, rfl, kq27, hg⟩ F
      have hsz := (kq27).size
      replace hs := hs.keep (kq27) (by simp)
      replace kp0 := kp0.trans (kq27) (by simp)
      have hcat : Own w26 wl9.heap.size 3 1 A1 c1 (ivs (catK Q 0)) := hg
      have hbase : w0.heap.size ≤ wl9.heap.size := by omega
      refine stp F (f_assign rfl) rfl rfl rfl (fun ac F => ?_)
      refine stpEnd ?_
      refine H25 _ _ ?_
      refine c_seq (fun K28 H29 => ?_)
      refine c_seq (fun K30 H31 => ?_)
      refine c_region ?_
      refine stp F (f_move rfl) rfl rfl rfl (fun ac F => ?_)
      refine stp F (f_len rfl Try.underlying48) rfl rfl rfl (fun ac F => ?_)
      refine stp F (f_move rfl) rfl rfl rfl (fun ac F => ?_)
      refine stpEnd ?_
      refine H31 _ _ ?_
      refine wp_block ?_
      have hbs : wl9.heap.size ≤ w26.heap.size := by omega
      refine c_loop (fun mx ax wx => ∃ (k : Nat), ∃ (A2 : Option Addr), ∃ (c2 : Nat), Fr ax 36 [(25, .slice (some ⟨g, 0, none⟩) 2 2), (26, .int .i64 2), (27, .int .i64 (k : Int)), (6, .slice A2 ((catK Q k).length) c2)] ∧ Kp [] w0 wx ∧ Blk wx g 23 ([(Q 0).v, (Q 1).v]) ∧ Own wx wl9.heap.size 3 1 A2 c2 (ivs (catK Q k)) ∧ wl9.heap.size ≤ wx.heap.size ∧ (k ≤ 2) ∧ mx = 2 - k) (2 - 0) ?_ ?_
      · exact ⟨0, A1, c1, F.sub ⟨rfl, rfl, rfl, rfl, trivial⟩, kp0, hs, hcat, hbs, by omega, rfl⟩
      · clear F kp0 hs hcat hbs
        rintro m33 ac wl32 ⟨k, A2, c2, F, kp0, hs, hcat, hbs, hk, hm⟩
        have hsz := kp0.size
        have lt_hs := hs.lt
        refine c_seq (fun K34 H35 => ?_)
        refine c_region ?_
        refine stp F (f_lss rfl rfl) rfl rfl rfl (fun ac F => ?_)
        refine stpEnd ?_
        refine H35 _ _ ?_
        refine c_seq (fun K36 H37 => ?_)
        by_cases hc38 : (k : Int) < 2
        · have hc := hc38
          replace F := F.setb (k := 28) (b' := true) rfl (decide_eq_true hc)
          clear hc
          refine c_true F rfl ?_
          refine wp_skip ?_
          refine H37 _ _ ?_
          refine c_seq (fun K39 H40 => ?_)
          refine wp_block ?_
          refine c_seq (fun K41 H42 => ?_)
          refine c_region ?_
          refine stp F (f_indexS (r := ⟨g, k * 1, none⟩) rfl rfl Try.underlying48 Try.sizeOf23 (by omega) (by omega) rfl (add_eq (by omega))) rfl rfl rfl (fun ac F => ?_)
          refine stp F (f_load1 (v := .slice ((Q k).A) ((Q k).l.length) ((Q k).c)) rfl Try.isAgg23 ((hs.cell _).trans (two_get (k := k) (by omega) rfl))) rfl rfl rfl (fun ac F => ?_)
          refine stp F (f_assign rfl) rfl rfl rfl (fun ac F => ?_)
          refine stpEnd ?_
          refine H42 _ _ ?_
          refine c_region ?_
          refine stp F (f_move rfl) rfl rfl rfl (fun ac F => ?_)
          refine stp F (f_move rfl) rfl rfl rfl (fun ac F => ?_)
          have hlk := catK_len (Q := Q) (k := k)
          have hzz : szK Q k ≤ 2000 := by have := (hQ 0 (by omega)).2; have := (hQ 1 (by omega)).2; unfold szK; split <;> split <;> omega
          have hqk := (hQ k (by omega)).2
          refine stpE F (f_appendI (vs := catK Q k) (us := (Q k).l) rfl rfl hcat ((hQ k (by omega)).1.keep kp0 (by simp)) (by omega) hbs) rfl rfl rfl ?_
          rintro _ w43 ac ⟨A3, c3, rfl, ho3, kq44, hbl⟩ F
          have hsz := kq44.size
          replace hs := hs.keep kq44 (fun hx => by have := hcat.base_le _ hx; omega)
          replace kp0 := kp0.trans kq44 (by intro x hx hl; have := hcat.base_le x hx; omega)
          replace hbs := Nat.le_trans hbs kq44.size
          rw [← catK_next (by omega)] at ho3 F
          replace hcat := ho3
          refine stp F (f_assign rfl) rfl rfl rfl (fun ac F => ?_)
          refine stpEnd ?_
          refine H40 _ _ ?_
          refine c_region ?_
          refine stp F (f_add (r := ((k + 1 : Nat) : Int)) rfl rfl (by rw [IntKind.wrap_i64]; omega)) rfl rfl rfl (fun ac F => ?_)
          refine stp F (f_move rfl) rfl rfl rfl (fun ac F => ?_)
          refine stpEnd ?_
          refine ⟨2 - (k + 1), ?_, (k + 1), A3, c3, F.sub ⟨rfl, rfl, rfl, rfl, trivial⟩, kp0, hs, hcat, hbs, by omega, rfl⟩
          omega
        · have hc := hc38
          replace F := F.setb (k := 28) (b' := false) rfl (decide_eq_false hc)
          clear hc
          refine c_false F rfl ?_
          refine wp_exit ?_
          refine H29 _ _ ?_
          refine c_seq (fun K45 H46 => ?_)
          refine c_region ?_
          refine stp F (f_move rfl) rfl rfl rfl (fun ac F => ?_)
          refine stp F (f_assign rfl) rfl rfl rfl (fun ac F => ?_)
          refine stpEnd ?_
          refine H46 _ _ ?_
          refine wp_ret ?_
          refine ret1 F rfl rfl ?_
          have hk2 : k = 2 := by omega
          subst hk2
          rw [← catK_two]
          exact ⟨A2, c2, rfl, kp0, hcat.more hbase⟩

end Go.Proofs.Ytkbngaollbmcbaa.KK

namespace Go.Proofs.Ytkbngaollbmcbaa.KK
open Go Go.RowKit

theorem ok7 : OkF 0 7 0 (fun p => (nilR p).l) := ⟨by unfold VOk; decide, by decide, fun p hp => ⟨by simp [nilR], by simp [nilR], fun i hi => by simp [nilR] at hi⟩⟩
theorem ok71 (A : Option Addr) (c : Nat) : OkF 0 7 0 (fun p => (upd nilR 0 ⟨A, c, [4]⟩ p).l) := ⟨by unfold VOk; decide, by decide, fun p hp => by
  show RowOk 7 p (upd nilR 0 ⟨A, c, [4]⟩ p).l
  by_cases e : p = 0
  · subst e; rw [upd_at0]; show RowOk 7 0 [4]; exact ⟨by decide, fun _ => by decide, fun i hi => by
      have : i = 0 := by simp at hi; omega
      subst this; exact ⟨by decide, fun j hj => by omega⟩⟩
  · rw [upd_off0 e]; exact ⟨by simp [nilR], by simp [nilR], fun i hi => by simp [nilR] at hi⟩⟩
def l71 : Nat → List Int := fun p => if p = 0 then [4] else []
theorem l71_eq (A : Option Addr) (c : Nat) : (fun p => (upd nilR 0 ⟨A, c, [4]⟩ p).l) = l71 := by
  funext p; unfold upd l71 nilR; split <;> rfl
theorem out71 (A : Option Addr) (c : Nat) : outK (uandn 7 0) (fun p => (upd nilR 0 ⟨A, c, [4]⟩ p).l) 1 30 = [4] := by rw [l71_eq]; decide +kernel
theorem out70 (A : Option Addr) (c : Nat) : outK (uandn 7 0) (fun p => (upd nilR 0 ⟨A, c, [4]⟩ p).l) 0 30 = [] := by rw [l71_eq]; decide +kernel
theorem nx_lt {num : Int} {mem gone come : Nat} (hmem : mem < 256) (hgone : gone < 256) (hcome : come < 256) : (nextR num mem gone come).mem < 256 := by
  unfold nextR
  split
  · decide
  · split
    · decide
    · split
      · decide
      · split
        · decide
        · exact uor_lt _ _
theorem run_eqView0 (w : World) : (Op.equal 67 (.agg #[.int .i64 0, .int .u8 0]) (.agg #[.int .i64 0, .int .u8 0])).run Try.prog w = .ok true w := by kernel_rfl
theorem f_eqView0 {n : Nat} {l : List (Nat × Value)} {w : World} {x y : Operand} {d t u p e g} (hx : evl l x = some (.agg #[.int .i64 0, .int .u8 0])) (hy : evl l y = some (.agg #[.int .i64 0, .int .u8 0])) : Fires Try.prog ⟨d, .binOp .eql 67 x y t, u, p, e, g⟩ n l w (.bool true) w := fun ac F => by
  have hg : Try.prog.eqGuardType Try.prog.depth 67 = false := by kernel_rfl
  simp only [execOp, F.eval hx, F.eval hy]
  simp [eqGuard, hg, binOp, run_eqView0]

set_option maxHeartbeats 4000000 in
theorem flush_c (num : Int) (mem gone come : Nat) (R : Nat → Ri) (w0 : World) (hmem : mem < 256) (hgone : gone < 256) (hcome : come < 256) (hnum : -9223372036854775808 ≤ num ∧ num ≤ 9223372036854775807) (hS : ∀ p : Nat, p < 6 → Sl w0 0 w0.heap.size 1 (R p).A (R p).l.length (R p).c (nvv (R p).l)) : Calls Try.prog 5 #[.agg #[.int .i64 num, .int .u8 (mem : Int), .int .u8 (gone : Int), .slice ((R 0).A) ((R 0).l.length) ((R 0).c), .slice ((R 1).A) ((R 1).l.length) ((R 1).c), .slice ((R 2).A) ((R 2).l.length) ((R 2).c), .slice ((R 3).A) ((R 3).l.length) ((R 3).c), .slice ((R 4).A) ((R 4).l.length) ((R 4).c), .slice ((R 5).A) ((R 5).l.length) ((R 5).c)], .int .u8 (come : Int)] w0 (Ret fun v w' => v = .bool true ∧ Kp [] w0 w') := by
  refine enter (n := 113) Try.func5 rfl rfl rfl (fun ac F => ?_)
  have kp0 := Kp.refl ([] : List Nat) w0
  refine c_seq (fun K1 H2 => ?_)
  refine c_region ?_
  refine stpE F (f_box (cs := [.int .i64 num, .int .u8 (mem : Int), .int .u8 (gone : Int), .slice ((R 0).A) ((R 0).l.length) ((R 0).c), .slice ((R 1).A) ((R 1).l.length) ((R 1).c), .slice ((R 2).A) ((R 2).l.length) ((R 2).c), .slice ((R 3).A) ((R 3).l.length) ((R 3).c), .slice ((R 4).A) ((R 4).l.length) ((R 4).c), .slice ((R 5).A) ((R 5).l.length) ((R 5).c)]) rfl rfl) rfl rfl rfl ?_
  rintro _ w4 ac ⟨g3, rfl, nb6⟩ F
  have n7 := nb6.num
  have z8 := nb6.size
  have hsz := (nb6.kp).size
  replace kp0 := kp0.trans (nb6.kp) (by simp)
  have hb5 : Blk w4 g3 70 (flL num mem gone R) := nb6.blk
  refine stp F (f_assign rfl) rfl rfl rfl (fun ac F => ?_)
  refine stpEnd ?_
  refine H2 _ _ ?_
  refine c_seq (fun K9 H10 => ?_)
  refine c_region ?_
  refine stpC F (f_call (P := Try.prog) (f := 29) (vs := [.int .u8 7]) rfl Try.call29) (new_c 7 _ (by decide) (by unfold VOk; decide)) rfl rfl rfl ?_
  rintro _ w11 ac ⟨rfl, kq12⟩ F
  have hsz := (kq12).size
  replace hb5 := hb5.keep (kq12) (by simp)
  replace kp0 := kp0.trans (kq12) (by simp)
  refine stp F (f_move rfl) rfl rfl rfl (fun ac F => ?_)
  refine stp F (f_extract (vs := [.agg #[.int .i64 0, .int .u8 (7 : Int), .int .u8 (0 : Int), .slice none 0 0, .slice none 0 0, .slice none 0 0, .slice none 0 0, .slice none 0 0, .slice none 0 0], .int .i64 0]) rfl rfl) rfl rfl rfl (fun ac F => ?_)
  refine stp F (f_extract (vs := [.agg #[.int .i64 0, .int .u8 (7 : Int), .int .u8 (0 : Int), .slice none 0 0, .slice none 0 0, .slice none 0 0, .slice none 0 0, .slice none 0 0, .slice none 0 0], .int .i64 0]) rfl rfl) rfl rfl rfl (fun ac F => ?_)
  refine stpE F (f_alloc (cs := [.int .i64 0, .int .u8 0, .int .u8 0, .slice none 0 0, .slice none 0 0, .slice none 0 0, .slice none 0 0, .slice none 0 0, .slice none 0 0]) Try.zeroValue70 rfl) rfl rfl rfl ?_
  rintro _ w14 ac ⟨g13, rfl, nb16⟩ F
  have n17 := nb16.num
  have z18 := nb16.size
  have hsz := (nb16.kp).size
  replace hb5 := hb5.keep (nb16.kp) (by simp)
  replace kp0 := kp0.trans (nb16.kp) (by simp)
  have hb15 : Blk w14 g13 70 ([.int .i64 0, .int .u8 0, .int .u8 0, .slice none 0 0, .slice none 0 0, .slice none 0 0, .slice none 0 0, .slice none 0 0, .slice none 0 0]) := nb16.blk
  refine stpW F (f_store (v := .agg #[.int .i64 0, .int .u8 (7 : Int), .int .u8 (0 : Int), .slice none 0 0, .slice none 0 0, .slice none 0 0, .slice none 0 0, .slice none 0 0, .slice none 0 0]) (vs := [.int .i64 0, .int .u8 (7 : Int), .int .u8 (0 : Int), .slice none 0 0, .slice none 0 0, .slice none 0 0, .slice none 0 0, .slice none 0 0, .slice none 0 0]) rfl rfl hb15 Try.sizeOf70 rfl rfl (by simp) (by simp [plainV])) rfl rfl ?_
  rintro w19 ac wr20 F
  have z21 := wr20.size
  have hsz := (wr20.kp).size
  replace hb5 := hb5.keep (wr20.kp) (by have := hb5.lt; simp; omega)
  replace kp0 := kp0.trans (wr20.kp) (by intro x hx hl; simp at hx; omega)
  replace hb15 : Blk w19 g13 70 ([.int .i64 0, .int .u8 (7 : Int), .int .u8 (0 : Int), .slice none 0 0, .slice none 0 0, .slice none 0 0, .slice none 0 0, .slice none 0 0, .slice none 0 0]) := wr20.blk
  refine stp F (f_assign rfl) rfl rfl rfl (fun ac F => ?_)
  refine stpEnd ?_
  refine H10 _ _ ?_
  refine c_seq (fun K22 H23 => ?_)
  refine c_seq (fun K24 H25 => ?_)
  refine c_region ?_
  refine stp F (f_move rfl) rfl rfl rfl (fun ac F => ?_)
  refine stp F (f_neq rfl rfl) rfl rfl rfl (fun ac F => ?_)
  refine stpEnd ?_
  refine H25 _ _ ?_
  have hc : (0 : Int) = 0 := by rfl
  replace F := F.setb (k := 21) (b' := false) rfl (nt (decide_eq_true hc))
  refine c_false F rfl ?_
  refine wp_skip ?_
  refine H23 _ _ ?_
  refine c_seq (fun K26 H27 => ?_)
  refine c_seq (fun K28 H29 => ?_)
  refine c_region ?_
  refine stp F (f_loadN rfl Try.isAgg70 Try.sizeOf70 hb15.rdAll) rfl rfl rfl (fun ac F => ?_)
  refine stpC F (f_call (P := Try.prog) (f := 30) (vs := [.agg #[.int .i64 0, .int .u8 (7 : Int), .int .u8 (0 : Int), .slice none 0 0, .slice none 0 0, .slice none 0 0, .slice none 0 0, .slice none 0 0, .slice none 0 0], .int .i64 0, .int .i64 4]) rfl Try.call30) (tell_c 0 7 0 _ (by decide) (by decide) ok7 (by decide +kernel)) rfl rfl rfl ?_
  rintro _ w30 ac ⟨A1, c1, rfl, kq31, hoA⟩ F
  have hsz := (kq31).size
  replace hb5 := hb5.keep (kq31) (by simp)
  replace hb15 := hb15.keep (kq31) (by simp)
  replace kp0 := kp0.trans (kq31) (by simp)
  have hob0 : ∀ x ∈ ob A1, w19.heap.size ≤ x := fun x hx => (hoA.base_le x hx).1
  refine stp F (f_move rfl) rfl rfl rfl (fun ac F => ?_)
  refine stp F (f_extract (vs := [.agg #[.int .i64 0, .int .u8 (7 : Int), .int .u8 (0 : Int), .slice A1 1 c1, .slice none 0 0, .slice none 0 0, .slice none 0 0, .slice none 0 0, .slice none 0 0], .int .i64 0]) rfl rfl) rfl rfl rfl (fun ac F => ?_)
  refine stp F (f_extract (vs := [.agg #[.int .i64 0, .int .u8 (7 : Int), .int .u8 (0 : Int), .slice A1 1 c1, .slice none 0 0, .slice none 0 0, .slice none 0 0, .slice none 0 0, .slice none 0 0], .int .i64 0]) rfl rfl) rfl rfl rfl (fun ac F => ?_)
  refine stpW F (f_store (v := .agg #[.int .i64 0, .int .u8 (7 : Int), .int .u8 (0 : Int), .slice A1 1 c1, .slice none 0 0, .slice none 0 0, .slice none 0 0, .slice none 0 0, .slice none 0 0]) (vs := [.int .i64 0, .int .u8 (7 : Int), .int .u8 (0 : Int), .slice A1 1 c1, .slice none 0 0, .slice none 0 0, .slice none 0 0, .slice none 0 0, .slice none 0 0]) rfl rfl hb15 Try.sizeOf70 rfl rfl (by simp) (by simp [plainV])) rfl rfl ?_
  rintro w32 ac wr33 F
  have z34 := wr33.size
  have hsz := (wr33.kp).size
  replace hb5 := hb5.keep (wr33.kp) (by have := hb5.lt; simp; omega)
  replace hoA := hoA.keep (wr33.kp) (by intro x hx hm; have h1 := hoA.base_le x hx; (try have h2 := hob0 x hx); (try have h3 := hob1 x hx); simp at hm; omega)
  replace kp0 := kp0.trans (wr33.kp) (by intro x hx hl; simp at hx; omega)
  replace hb15 : Blk w32 g13 70 ([.int .i64 0, .int .u8 (7 : Int), .int .u8 (0 : Int), .slice A1 1 c1, .slice none 0 0, .slice none 0 0, .slice none 0 0, .slice none 0 0, .slice none 0 0]) := wr33.blk
  refine stp F (f_assign rfl) rfl rfl rfl (fun ac F => ?_)
  refine stpEnd ?_
  refine H29 _ _ ?_
  refine c_seq (fun K35 H36 => ?_)
  refine c_region ?_
  refine stp F (f_move rfl) rfl rfl rfl (fun ac F => ?_)
  refine stp F (f_neq rfl rfl) rfl rfl rfl (fun ac F => ?_)
  refine stpEnd ?_
  refine H36 _ _ ?_
  have hc : (0 : Int) = 0 := by rfl
  replace F := F.setb (k := 28) (b' := false) rfl (nt (decide_eq_true hc))
  refine c_false F rfl ?_
  refine wp_skip ?_
  refine H27 _ _ ?_
  refine c_seq (fun K37 H38 => ?_)
  refine c_seq (fun K39 H40 => ?_)
  refine c_region ?_
  refine stp F (f_loadN rfl Try.isAgg70 Try.sizeOf70 hb15.rdAll) rfl rfl rfl (fun ac F => ?_)
  have hS1 : ∀ p : Nat, p < 6 → Sl w32 0 w32.heap.size 1 ((upd nilR 0 ⟨A1, c1, [4]⟩) p).A ((upd nilR 0 ⟨A1, c1, [4]⟩) p).l.length ((upd nilR 0 ⟨A1, c1, [4]⟩) p).c (nvv ((upd nilR 0 ⟨A1, c1, [4]⟩) p).l) := fun p hp => by
    by_cases e : p = 0
    · subst e; exact (hoA.isl).more (Nat.zero_le _) (Nat.le_refl _)
    · rw [upd_off0 e]; exact Sl.nil _ _ _ _ _
  refine stpC F (f_call (P := Try.prog) (f := 31) (vs := [.agg #[.int .i64 0, .int .u8 (7 : Int), .int .u8 (0 : Int), .slice A1 1 c1, .slice none 0 0, .slice none 0 0, .slice none 0 0, .slice none 0 0, .slice none 0 0], .int .u8 0]) rfl Try.call31) (change_ok 0 7 0 0 (upd nilR 0 ⟨A1, c1, [4]⟩) _ (by decide) (by decide) (by decide) (by decide) hS1 (ok71 _ _) (by decide +kernel)) rfl rfl rfl ?_
  rintro _ w41 ac ⟨Q1, rfl, kq42, hQo1, hQl1⟩ F
  have hsz := (kq42).size
  replace hb5 := hb5.keep (kq42) (by simp)
  replace hb15 := hb15.keep (kq42) (by simp)
  replace hoA := hoA.keep (kq42) (by simp)
  replace kp0 := kp0.trans (kq42) (by simp)
  have hq11 : (Q1 1).l = [4] := by rw [hQl1 1 (by omega)]; exact out71 A1 c1
  have hq10 : (Q1 0).l = [] := by rw [hQl1 0 (by omega)]; exact out70 A1 c1
  have hs11 := (hQo1 1 (by omega)).isl
  have hk1 := Kp.refl ([] : List Nat) w41
  refine stp F (f_move rfl) rfl rfl rfl (fun ac F => ?_)
  refine stp F (f_extract (vs := [.agg #[.int .i64 ((nextR 0 7 0 0).num), .int .u8 (((nextR 0 7 0 0).mem : Nat) : Int), .int .u8 (0 : Int), .slice none 0 0, .slice none 0 0, .slice none 0 0, .slice none 0 0, .slice none 0 0, .slice none 0 0], .agg #[.slice ((Q1 0).A) ((Q1 0).l.length) ((Q1 0).c), .slice ((Q1 1).A) ((Q1 1).l.length) ((Q1 1).c), .slice ((Q1 2).A) ((Q1 2).l.length) ((Q1 2).c), .slice ((Q1 3).A) ((Q1 3).l.length) ((Q1 3).c), .slice ((Q1 4).A) ((Q1 4).l.length) ((Q1 4).c), .slice ((Q1 5).A) ((Q1 5).l.length) ((Q1 5).c)], .int .i64 0]) rfl rfl) rfl rfl rfl (fun ac F => ?_)
  refine stp F (f_extract (vs := [.agg #[.int .i64 ((nextR 0 7 0 0).num), .int .u8 (((nextR 0 7 0 0).mem : Nat) : Int), .int .u8 (0 : Int), .slice none 0 0, .slice none 0 0, .slice none 0 0, .slice none 0 0, .slice none 0 0, .slice none 0 0], .agg #[.slice ((Q1 0).A) ((Q1 0).l.length) ((Q1 0).c), .slice ((Q1 1).A) ((Q1 1).l.length) ((Q1 1).c), .slice ((Q1 2).A) ((Q1 2).l.length) ((Q1 2).c), .slice ((Q1 3).A) ((Q1 3).l.length) ((Q1 3).c), .slice ((Q1 4).A) ((Q1 4).l.length) ((Q1 4).c), .slice ((Q1 5).A) ((Q1 5).l.length) ((Q1 5).c)], .int .i64 0]) rfl rfl) rfl rfl rfl (fun ac F => ?_)
  refine stp F (f_extract (vs := [.agg #[.int .i64 ((nextR 0 7 0 0).num), .int .u8 (((nextR 0 7 0 0).mem : Nat) : Int), .int .u8 (0 : Int), .slice none 0 0, .slice none 0 0, .slice none 0 0, .slice none 0 0, .slice none 0 0, .slice none 0 0], .agg #[.slice ((Q1 0).A) ((Q1 0).l.length) ((Q1 0).c), .slice ((Q1 1).A) ((Q1 1).l.length) ((Q1 1).c), .slice ((Q1 2).A) ((Q1 2).l.length) ((Q1 2).c), .slice ((Q1 3).A) ((Q1 3).l.length) ((Q1 3).c), .slice ((Q1 4).A) ((Q1 4).l.length) ((Q1 4).c), .slice ((Q1 5).A) ((Q1 5).l.length) ((Q1 5).c)], .int .i64 0]) rfl rfl) rfl rfl rfl (fun ac F => ?_)
  refine stpE F (f_alloc (cs := [.int .i64 0, .int .u8 0, .int .u8 0, .slice none 0 0, .slice none 0 0, .slice none 0 0, .slice none 0 0, .slice none 0 0, .slice none 0 0]) Try.zeroValue70 rfl) rfl rfl rfl ?_
  rintro _ w44 ac ⟨g43, rfl, nb46⟩ F
  have n47 := nb46.num
  have z48 := nb46.size
  have hsz := (nb46.kp).size
  replace hb5 := hb5.keep (nb46.kp) (by simp)
  replace hb15 := hb15.keep (nb46.kp) (by simp)
  replace hk1 := hk1.trans (nb46.kp) (by simp)
  replace kp0 := kp0.trans (nb46.kp) (by simp)
  have hb45 : Blk w44 g43 70 ([.int .i64 0, .int .u8 0, .int .u8 0, .slice none 0 0, .slice none 0 0, .slice none 0 0, .slice none 0 0, .slice none 0 0, .slice none 0 0]) := nb46.blk
  refine stpE F (f_alloc (cs := [.slice none 0 0, .slice none 0 0, .slice none 0 0, .slice none 0 0, .slice none 0 0, .slice none 0 0]) Try.zeroValue68 rfl) rfl rfl rfl ?_
  rintro _ w50 ac ⟨g49, rfl, nb52⟩ F
  have n53 := nb52.num
  have z54 := nb52.size
  have hsz := (nb52.kp).size
  replace hb5 := hb5.keep (nb52.kp) (by simp)
  replace hb15 := hb15.keep (nb52.kp) (by simp)
  replace hk1 := hk1.trans (nb52.kp) (by simp)
  replace hb45 := hb45.keep (nb52.kp) (by simp)
  replace kp0 := kp0.trans (nb52.kp) (by simp)
  have hb51 : Blk w50 g49 68 (rows6 nilR) := nb52.blk
  refine stpW F (f_store (v := .agg #[.int .i64 ((nextR 0 7 0 0).num), .int .u8 (((nextR 0 7 0 0).mem : Nat) : Int), .int .u8 (0 : Int), .slice none 0 0, .slice none 0 0, .slice none 0 0, .slice none 0 0, .slice none 0 0, .slice none 0 0]) (vs := [.int .i64 ((nextR 0 7 0 0).num), .int .u8 (((nextR 0 7 0 0).mem : Nat) : Int), .int .u8 (0 : Int), .slice none 0 0, .slice none 0 0, .slice none 0 0, .slice none 0 0, .slice none 0 0, .slice none 0 0]) rfl rfl hb45 Try.sizeOf70 rfl rfl (by simp) (by simp [plainV])) rfl rfl ?_
  rintro w55 ac wr56 F
  have z57 := wr56.size
  have hsz := (wr56.kp).size
  replace hb5 := hb5.keep (wr56.kp) (by have := hb5.lt; simp; omega)
  replace hb15 := hb15.keep (wr56.kp) (by have := hb15.lt; simp; omega)
  replace hk1 := hk1.trans (wr56.kp) (by intro x hx hl; simp at hx; omega)
  replace hb51 := hb51.keep (wr56.kp) (by have := hb51.lt; simp; omega)
  replace kp0 := kp0.trans (wr56.kp) (by intro x hx hl; simp at hx; omega)
  replace hb45 : Blk w55 g43 70 ([.int .i64 ((nextR 0 7 0 0).num), .int .u8 (((nextR 0 7 0 0).mem : Nat) : Int), .int .u8 (0 : Int), .slice none 0 0, .slice none 0 0, .slice none 0 0, .slice none 0 0, .slice none 0 0, .slice none 0 0]) := wr56.blk
  refine stpW F (f_store (v := .agg #[.slice ((Q1 0).A) ((Q1 0).l.length) ((Q1 0).c), .slice ((Q1 1).A) ((Q1 1).l.length) ((Q1 1).c), .slice ((Q1 2).A) ((Q1 2).l.length) ((Q1 2).c), .slice ((Q1 3).A) ((Q1 3).l.length) ((Q1 3).c), .slice ((Q1 4).A) ((Q1 4).l.length) ((Q1 4).c), .slice ((Q1 5).A) ((Q1 5).l.length) ((Q1 5).c)]) (vs := [.slice ((Q1 0).A) ((Q1 0).l.length) ((Q1 0).c), .slice ((Q1 1).A) ((Q1 1).l.length) ((Q1 1).c), .slice ((Q1 2).A) ((Q1 2).l.length) ((Q1 2).c), .slice ((Q1 3).A) ((Q1 3).l.length) ((Q1 3).c), .slice ((Q1 4).A) ((Q1 4).l.length) ((Q1 4).c), .slice ((Q1 5).A) ((Q1 5).l.length) ((Q1 5).c)]) rfl rfl hb51 Try.sizeOf68 rfl rfl (by rw [rows6_len]; simp) (by simp [plainV])) rfl rfl ?_
  rintro w58 ac wr59 F
  have z60 := wr59.size
  have hsz := (wr59.kp).size
  replace hb5 := hb5.keep (wr59.kp) (by have := hb5.lt; simp; omega)
  replace hb15 := hb15.keep (wr59.kp) (by have := hb15.lt; simp; omega)
  replace hk1 := hk1.trans (wr59.kp) (by intro x hx hl; simp at hx; omega)
  replace hb45 := hb45.keep (wr59.kp) (by have := hb45.lt; simp; omega)
  replace kp0 := kp0.trans (wr59.kp) (by intro x hx hl; simp at hx; omega)
  replace hb51 : Blk w58 g49 68 (rows6 Q1) := ((wr59.blk).eqv rfl)
  refine stp F (f_assign rfl) rfl rfl rfl (fun ac F => ?_)
  refine stpEnd ?_
  refine H40 _ _ ?_
  refine c_seq (fun K61 H62 => ?_)
  refine c_region ?_
  refine stp F (f_move rfl) rfl rfl rfl (fun ac F => ?_)
  refine stp F (f_neq rfl rfl) rfl rfl rfl (fun ac F => ?_)
  refine stp F (f_move rfl) rfl rfl rfl (fun ac F => ?_)
  have hc : (0 : Int) = 0 := by rfl
  replace F := F.setb (k := 36) (b' := false) rfl (nt (decide_eq_true hc))
  replace F := F.setb (k := 37) (b' := false) rfl (nt (decide_eq_true hc))
  refine stp F (f_indexA (r := ⟨g49, 1, none⟩) rfl rfl Try.underlying68 Try.sizeOf23 (by omega) (by omega) rfl) rfl rfl rfl (fun ac F => ?_)
  refine stp F (f_load1 (v := .slice ((Q1 1).A) ((Q1 1).l.length) ((Q1 1).c)) rfl Try.isAgg23 ((hb51.cell _).trans rfl)) rfl rfl rfl (fun ac F => ?_)
  refine stpE F (f_buildSlice (el := 3) (vs := [(0, .int .i64 4)]) (cs := [.int .i64 4]) rfl (fun w => by kernel_rfl)) rfl rfl rfl ?_
  rintro _ w64 ac ⟨g63, rfl, nb65⟩ F
  have n67 := nb65.num
  have z68 := nb65.size
  have hsz := (nb65.kp).size
  replace hb5 := hb5.keep (nb65.kp) (by simp)
  replace hb15 := hb15.keep (nb65.kp) (by simp)
  replace hk1 := hk1.trans (nb65.kp) (by simp)
  replace hb45 := hb45.keep (nb65.kp) (by simp)
  replace hb51 := hb51.keep (nb65.kp) (by simp)
  replace kp0 := kp0.trans (nb65.kp) (by simp)
  have hb66 : Blk w64 g63 3 ([.int .i64 4]) := nb65.blk
  refine stpC F (f_call (P := Try.prog) (f := 8) (vs := [.slice ((Q1 1).A) ((Q1 1).l.length) ((Q1 1).c), .slice (some ⟨g63, 0, none⟩) 1 1]) rfl Try.call8) (equal_c (Q1 1).A _ (Q1 1).c _ _ _ _ _ (Q1 1).l [4] _ (hs11.keep hk1 (by simp)) (blk_ints (l := [4]) hb66 rfl (by decide)) (by rw [hq11]; decide)) rfl rfl rfl ?_
  rintro _ w69 ac ⟨rfl, kq70⟩ F
  have hsz := (kq70).size
  replace hb5 := hb5.keep (kq70) (by simp)
  replace hb15 := hb15.keep (kq70) (by simp)
  replace hk1 := hk1.trans (kq70) (by simp)
  replace hb45 := hb45.keep (kq70) (by simp)
  replace hb51 := hb51.keep (kq70) (by simp)
  replace hb66 := hb66.keep (kq70) (by simp)
  replace kp0 := kp0.trans (kq70) (by simp)
  refine stp F (f_not rfl) rfl rfl rfl (fun ac F => ?_)
  refine stp F (f_pickF rfl rfl) rfl rfl rfl (fun ac F => ?_)
  refine stp F (f_move rfl) rfl rfl rfl (fun ac F => ?_)
  have hc : (Q1 1).l = [4] := by exact hq11
  replace F := F.setb (k := 41) (b' := true) rfl (decide_eq_true hc)
  replace F := F.setb (k := 42) (b' := false) rfl (nt (decide_eq_true hc))
  replace F := F.setb (k := 43) (b' := false) rfl (nt (decide_eq_true hc))
  replace F := F.setb (k := 44) (b' := false) rfl (nt (decide_eq_true hc))
  refine stp F (f_indexA (r := ⟨g49, 0, none⟩) rfl rfl Try.underlying68 Try.sizeOf23 (by omega) (by omega) rfl) rfl rfl rfl (fun ac F => ?_)
  refine stp F (f_load1 (v := .slice ((Q1 0).A) ((Q1 0).l.length) ((Q1 0).c)) rfl Try.isAgg23 ((hb51.cell _).trans rfl)) rfl rfl rfl (fun ac F => ?_)
  refine stp F (f_len rfl Try.underlying23) rfl rfl rfl (fun ac F => ?_)
  refine stp F (f_neq rfl rfl) rfl rfl rfl (fun ac F => ?_)
  refine stp F (f_pickF rfl rfl) rfl rfl rfl (fun ac F => ?_)
  refine stpEnd ?_
  skip
  refine H62 _ _ ?_
  have hc : (((Q1 0).l.length : Nat) : Int) = 0 := by rw [hq10]; rfl
  replace F := F.setb (k := 48) (b' := false) rfl (nt (decide_eq_true hc))
  replace F := F.setb (k := 49) (b' := false) rfl (nt (decide_eq_true hc))
  refine c_false F rfl ?_
  refine wp_skip ?_
  refine H38 _ _ ?_
  refine c_seq (fun K71 H72 => ?_)
  by_cases hgood : OkF num mem gone (fun p => (R p).l) ∧ (nextR num mem gone come).e = 0
  · refine c_region ?_
    refine stp F (f_loadN rfl Try.isAgg70 Try.sizeOf70 (hb5.rd (o := 0) (v := .agg #[.int .i64 num, .int .u8 (mem : Int), .int .u8 (gone : Int), .slice ((R 0).A) ((R 0).l.length) ((R 0).c), .slice ((R 1).A) ((R 1).l.length) ((R 1).c), .slice ((R 2).A) ((R 2).l.length) ((R 2).c), .slice ((R 3).A) ((R 3).l.length) ((R 3).c), .slice ((R 4).A) ((R 4).l.length) ((R 4).c), .slice ((R 5).A) ((R 5).l.length) ((R 5).c)]) rfl (by intro j u hu; exact part_at (ps := [.int .i64 num, .int .u8 (mem : Int), .int .u8 (gone : Int), .slice ((R 0).A) ((R 0).l.length) ((R 0).c), .slice ((R 1).A) ((R 1).l.length) ((R 1).c), .slice ((R 2).A) ((R 2).l.length) ((R 2).c), .slice ((R 3).A) ((R 3).l.length) ((R 3).c), .slice ((R 4).A) ((R 4).l.length) ((R 4).c), .slice ((R 5).A) ((R 5).l.length) ((R 5).c)]) (by rfl) (by simpa [Value.cells] using hu)))) rfl rfl rfl (fun ac F => ?_)
    refine stp F (f_move rfl) rfl rfl rfl (fun ac F => ?_)
    refine stpC F (f_call (P := Try.prog) (f := 31) (vs := [.agg #[.int .i64 num, .int .u8 (mem : Int), .int .u8 (gone : Int), .slice ((R 0).A) ((R 0).l.length) ((R 0).c), .slice ((R 1).A) ((R 1).l.length) ((R 1).c), .slice ((R 2).A) ((R 2).l.length) ((R 2).c), .slice ((R 3).A) ((R 3).l.length) ((R 3).c), .slice ((R 4).A) ((R 4).l.length) ((R 4).c), .slice ((R 5).A) ((R 5).l.length) ((R 5).c)], .int .u8 (come : Int)]) rfl Try.call31) (change_ok num mem gone come R _ hmem hgone hcome hnum (fun p hp => ((hS p hp).keep kp0 (by simp)).more (Nat.le_refl _) kp0.size) hgood.1 hgood.2) rfl rfl rfl ?_
    rintro _ w73 ac ⟨Q, rfl, kq74, hQo, hQl⟩ F
    have hsz := (kq74).size
    replace hb5 := hb5.keep (kq74) (by simp)
    replace hb15 := hb15.keep (kq74) (by simp)
    replace hb45 := hb45.keep (kq74) (by simp)
    replace hb51 := hb51.keep (kq74) (by simp)
    replace hb66 := hb66.keep (kq74) (by simp)
    replace kp0 := kp0.trans (kq74) (by simp)
    have hwb : w0.heap.size ≤ w69.heap.size := by omega
    have hk2 := Kp.refl ([] : List Nat) w73
    refine stp F (f_move rfl) rfl rfl rfl (fun ac F => ?_)
    refine stp F (f_extract (vs := [.agg #[.int .i64 ((nextR num mem gone come).num), .int .u8 (((nextR num mem gone come).mem : Nat) : Int), .int .u8 (0 : Int), .slice none 0 0, .slice none 0 0, .slice none 0 0, .slice none 0 0, .slice none 0 0, .slice none 0 0], .agg #[.slice ((Q 0).A) ((Q 0).l.length) ((Q 0).c), .slice ((Q 1).A) ((Q 1).l.length) ((Q 1).c), .slice ((Q 2).A) ((Q 2).l.length) ((Q 2).c), .slice ((Q 3).A) ((Q 3).l.length) ((Q 3).c), .slice ((Q 4).A) ((Q 4).l.length) ((Q 4).c), .slice ((Q 5).A) ((Q 5).l.length) ((Q 5).c)], .int .i64 0]) rfl rfl) rfl rfl rfl (fun ac F => ?_)
    refine stp F (f_extract (vs := [.agg #[.int .i64 ((nextR num mem gone come).num), .int .u8 (((nextR num mem gone come).mem : Nat) : Int), .int .u8 (0 : Int), .slice none 0 0, .slice none 0 0, .slice none 0 0, .slice none 0 0, .slice none 0 0, .slice none 0 0], .agg #[.slice ((Q 0).A) ((Q 0).l.length) ((Q 0).c), .slice ((Q 1).A) ((Q 1).l.length) ((Q 1).c), .slice ((Q 2).A) ((Q 2).l.length) ((Q 2).c), .slice ((Q 3).A) ((Q 3).l.length) ((Q 3).c), .slice ((Q 4).A) ((Q 4).l.length) ((Q 4).c), .slice ((Q 5).A) ((Q 5).l.length) ((Q 5).c)], .int .i64 0]) rfl rfl) rfl rfl rfl (fun ac F => ?_)
    refine stp F (f_extract (vs := [.agg #[.int .i64 ((nextR num mem gone come).num), .int .u8 (((nextR num mem gone come).mem : Nat) : Int), .int .u8 (0 : Int), .slice none 0 0, .slice none 0 0, .slice none 0 0, .slice none 0 0, .slice none 0 0, .slice none 0 0], .agg #[.slice ((Q 0).A) ((Q 0).l.length) ((Q 0).c), .slice ((Q 1).A) ((Q 1).l.length) ((Q 1).c), .slice ((Q 2).A) ((Q 2).l.length) ((Q 2).c), .slice ((Q 3).A) ((Q 3).l.length) ((Q 3).c), .slice ((Q 4).A) ((Q 4).l.length) ((Q 4).c), .slice ((Q 5).A) ((Q 5).l.length) ((Q 5).c)], .int .i64 0]) rfl rfl) rfl rfl rfl (fun ac F => ?_)
    refine stpE F (f_alloc (cs := [.int .i64 0, .int .u8 0, .int .u8 0, .slice none 0 0, .slice none 0 0, .slice none 0 0, .slice none 0 0, .slice none 0 0, .slice none 0 0]) Try.zeroValue70 rfl) rfl rfl rfl ?_
    rintro _ w76 ac ⟨g75, rfl, nb78⟩ F
    have n79 := nb78.num
    have z80 := nb78.size
    have hsz := (nb78.kp).size
    replace hb5 := hb5.keep (nb78.kp) (by simp)
    replace hb15 := hb15.keep (nb78.kp) (by simp)
    replace hb45 := hb45.keep (nb78.kp) (by simp)
    replace hb51 := hb51.keep (nb78.kp) (by simp)
    replace hb66 := hb66.keep (nb78.kp) (by simp)
    replace hk2 := hk2.trans (nb78.kp) (by simp)
    replace kp0 := kp0.trans (nb78.kp) (by simp)
    have hb77 : Blk w76 g75 70 ([.int .i64 0, .int .u8 0, .int .u8 0, .slice none 0 0, .slice none 0 0, .slice none 0 0, .slice none 0 0, .slice none 0 0, .slice none 0 0]) := nb78.blk
    refine stpE F (f_alloc (cs := [.slice none 0 0, .slice none 0 0, .slice none 0 0, .slice none 0 0, .slice none 0 0, .slice none 0 0]) Try.zeroValue68 rfl) rfl rfl rfl ?_
    rintro _ w82 ac ⟨g81, rfl, nb84⟩ F
    have n85 := nb84.num
    have z86 := nb84.size
    have hsz := (nb84.kp).size
    replace hb5 := hb5.keep (nb84.kp) (by simp)
    replace hb15 := hb15.keep (nb84.kp) (by simp)
    replace hb45 := hb45.keep (nb84.kp) (by simp)
    replace hb51 := hb51.keep (nb84.kp) (by simp)
    replace hb66 := hb66.keep (nb84.kp) (by simp)
    replace hk2 := hk2.trans (nb84.kp) (by simp)
    replace hb77 := hb77.keep (nb84.kp) (by simp)
    replace kp0 := kp0.trans (nb84.kp) (by simp)
    have hb83 : Blk w82 g81 68 (rows6 nilR) := nb84.blk
    refine stpW F (f_store (v := .agg #[.int .i64 ((nextR num mem gone come).num), .int .u8 (((nextR num mem gone come).mem : Nat) : Int), .int .u8 (0 : Int), .slice none 0 0, .slice none 0 0, .slice none 0 0, .slice none 0 0, .slice none 0 0, .slice none 0 0]) (vs := [.int .i64 ((nextR num mem gone come).num), .int .u8 (((nextR num mem gone come).mem : Nat) : Int), .int .u8 (0 : Int), .slice none 0 0, .slice none 0 0, .slice none 0 0, .slice none 0 0, .slice none 0 0, .slice none 0 0]) rfl rfl hb77 Try.sizeOf70 rfl rfl (by simp) (by simp [plainV])) rfl rfl ?_
    rintro w87 ac wr88 F
    have z89 := wr88.size
    have hsz := (wr88.kp).size
    replace hb5 := hb5.keep (wr88.kp) (by have := hb5.lt; simp; omega)
    replace hb15 := hb15.keep (wr88.kp) (by have := hb15.lt; simp; omega)
    replace hb45 := hb45.keep (wr88.kp) (by have := hb45.lt; simp; omega)
    replace hb51 := hb51.keep (wr88.kp) (by have := hb51.lt; simp; omega)
    replace hb66 := hb66.keep (wr88.kp) (by have := hb66.lt; simp; omega)
    replace hk2 := hk2.trans (wr88.kp) (by intro x hx hl; simp at hx; omega)
    replace hb83 := hb83.keep (wr88.kp) (by have := hb83.lt; simp; omega)
    replace kp0 := kp0.trans (wr88.kp) (by intro x hx hl; simp at hx; omega)
    replace hb77 : Blk w87 g75 70 ([.int .i64 ((nextR num mem gone come).num), .int .u8 (((nextR num mem gone come).mem : Nat) : Int), .int .u8 (0 : Int), .slice none 0 0, .slice none 0 0, .slice none 0 0, .slice none 0 0, .slice none 0 0, .slice none 0 0]) := wr88.blk
    refine stpW F (f_store (v := .agg #[.slice ((Q 0).A) ((Q 0).l.length) ((Q 0).c), .slice ((Q 1).A) ((Q 1).l.length) ((Q 1).c), .slice ((Q 2).A) ((Q 2).l.length) ((Q 2).c), .slice ((Q 3).A) ((Q 3).l.length) ((Q 3).c), .slice ((Q 4).A) ((Q 4).l.length) ((Q 4).c), .slice ((Q 5).A) ((Q 5).l.length) ((Q 5).c)]) (vs := [.slice ((Q 0).A) ((Q 0).l.length) ((Q 0).c), .slice ((Q 1).A) ((Q 1).l.length) ((Q 1).c), .slice ((Q 2).A) ((Q 2).l.length) ((Q 2).c), .slice ((Q 3).A) ((Q 3).l.length) ((Q 3).c), .slice ((Q 4).A) ((Q 4).l.length) ((Q 4).c), .slice ((Q 5).A) ((Q 5).l.length) ((Q 5).c)]) rfl rfl hb83 Try.sizeOf68 rfl rfl (by rw [rows6_len]; simp) (by simp [plainV])) rfl rfl ?_
    rintro w90 ac wr91 F
    have z92 := wr91.size
    have hsz := (wr91.kp).size
    replace hb5 := hb5.keep (wr91.kp) (by have := hb5.lt; simp; omega)
    replace hb15 := hb15.keep (wr91.kp) (by have := hb15.lt; simp; omega)
    replace hb45 := hb45.keep (wr91.kp) (by have := hb45.lt; simp; omega)
    replace hb51 := hb51.keep (wr91.kp) (by have := hb51.lt; simp; omega)
    replace hb66 := hb66.keep (wr91.kp) (by have := hb66.lt; simp; omega)
    replace hk2 := hk2.trans (wr91.kp) (by intro x hx hl; simp at hx; omega)
    replace hb77 := hb77.keep (wr91.kp) (by have := hb77.lt; simp; omega)
    replace kp0 := kp0.trans (wr91.kp) (by intro x hx hl; simp at hx; omega)
    replace hb83 : Blk w90 g81 68 (rows6 Q) := ((wr91.blk).eqv rfl)
    refine stp F (f_assign rfl) rfl rfl rfl (fun ac F => ?_)
    refine stpEnd ?_
    refine H72 _ _ ?_
    refine c_seq (fun K93 H94 => ?_)
    refine c_seq (fun K95 H96 => ?_)
    refine c_region ?_
    refine stp F (f_move rfl) rfl rfl rfl (fun ac F => ?_)
    refine stp F (f_neq rfl rfl) rfl rfl rfl (fun ac F => ?_)
    refine stpEnd ?_
    refine H96 _ _ ?_
    by_cases hc97 : (0 : Int) = 0
    · have hc := hc97
      replace F := F.setb (k := 58) (b' := false) rfl (nt (decide_eq_true hc))
      clear hc
      refine c_false F rfl ?_
      refine wp_skip ?_
      refine H94 _ _ ?_
      refine c_seq (fun K98 H99 => ?_)
      refine c_region ?_
      refine stp F (f_assign rfl) rfl rfl rfl (fun ac F => ?_)
      refine stpEnd ?_
      refine H99 _ _ ?_
      refine c_seq (fun K100 H101 => ?_)
      refine c_region ?_
      refine stp F (f_assign rfl) rfl rfl rfl (fun ac F => ?_)
      refine stpEnd ?_
      refine H101 _ _ ?_
      refine c_seq (fun K102 H103 => ?_)
      refine c_seq (fun K104 H105 => ?_)
      refine c_region ?_
      refine stp F (f_move rfl) rfl rfl rfl (fun ac F => ?_)
      refine stpEnd ?_
      refine H105 _ _ ?_
      refine wp_block ?_
      have hfst : Own w90 w90.heap.size 3 1 none 0 (ivs []) := Own.nil _ _ _ _
      have hOk := hgood.1
      have hbase : w0.heap.size ≤ w90.heap.size := by omega
      have hbs : w90.heap.size ≤ w90.heap.size := Nat.le_refl _
      refine c_loop (fun mx ax wx => ∃ (p : Nat), ∃ (seen : Bool), ∃ (FA : Option Addr), ∃ (fc : Nat), ∃ (fl : List Int), Fr ax 113 [(2, .pointer (some ⟨g3, 0, none⟩)), (10, .pointer (some ⟨g75, 0, none⟩)), (11, .pointer (some ⟨g81, 0, none⟩)), (63, .int .i64 (p : Int)), (13, .bool seen), (12, .slice FA fl.length fc)] ∧ Kp [] w0 wx ∧ Blk wx g3 70 (flL num mem gone R) ∧ Blk wx g75 70 ([.int .i64 ((nextR num mem gone come).num), .int .u8 (((nextR num mem gone come).mem : Nat) : Int), .int .u8 (0 : Int), .slice none 0 0, .slice none 0 0, .slice none 0 0, .slice none 0 0, .slice none 0 0, .slice none 0 0]) ∧ Blk wx g81 68 (rows6 Q) ∧ Kp [] w73 wx ∧ Own wx w90.heap.size 3 1 FA fc (ivs fl) ∧ w90.heap.size ≤ wx.heap.size ∧ (p ≤ 6) ∧ (seen = true → fl = (allT (uandn mem gone) (fun p => (R p).l))) ∧ ((∃ q, q < p ∧ Al (uandn mem gone) q) → seen = true) ∧ mx = 6 - p) (6 - 0) ?_ ?_
      · exact ⟨0, false, none, 0, [], F.sub ⟨rfl, rfl, rfl, rfl, rfl, rfl, trivial⟩, kp0, hb5, hb77, hb83, hk2, hfst, hbs, by omega, (fun h => by cases h), (fun ⟨q, h, _⟩ => by omega), rfl⟩
      · clear F kp0 hb5 hb15 hb45 hb51 hb66 hk2 hb77 hb83
        rintro m107 ac wl106 ⟨p, seen, FA, fc, fl, F, kp0, hb5, hb77, hb83, hk2, hfst, hbs, hp, hsn, hal, hm⟩
        have hsz := kp0.size
        have lt_hb5 := hb5.lt
        have lt_hb77 := hb77.lt
        have lt_hb83 := hb83.lt
        refine c_seq (fun K108 H109 => ?_)
        refine c_region ?_
        refine stp F (f_lss rfl rfl) rfl rfl rfl (fun ac F => ?_)
        refine stpEnd ?_
        refine H109 _ _ ?_
        refine c_seq (fun K110 H111 => ?_)
        by_cases hc112 : (p : Int) < 6
        · have hc := hc112
          replace F := F.setb (k := 64) (b' := true) rfl (decide_eq_true hc)
          clear hc
          refine c_true F rfl ?_
          refine wp_skip ?_
          refine H111 _ _ ?_
          refine c_seq (fun K113 H114 => ?_)
          refine wp_block ?_
          refine c_seq (fun K115 H116 => ?_)
          refine c_region ?_
          refine stp F (f_move rfl) rfl rfl rfl (fun ac F => ?_)
          refine stp F (f_assign rfl) rfl rfl rfl (fun ac F => ?_)
          refine stpEnd ?_
          refine H116 _ _ ?_
          refine c_seq (fun K117 H118 => ?_)
          refine c_seq (fun K119 H120 => ?_)
          refine c_region ?_
          refine stp F (f_fieldAddr (r := ⟨g3, 0, none⟩) (sz := 1) rfl Try.underlying70 rfl Try.sizeOf67 rfl) rfl rfl rfl (fun ac F => ?_)
          refine stp F (f_fieldAddr (r := ⟨g3, 1, none⟩) (sz := 0) rfl Try.underlying67 rfl Try.sizeOf5 rfl) rfl rfl rfl (fun ac F => ?_)
          refine stp F (f_load1 (v := .int .u8 (mem : Int)) rfl Try.isAgg5 ((hb5.cell _).trans rfl)) rfl rfl rfl (fun ac F => ?_)
          refine stp F (f_fieldAddr (r := ⟨g3, 2, none⟩) (sz := 0) rfl Try.underlying70 rfl Try.sizeOf5 rfl) rfl rfl rfl (fun ac F => ?_)
          refine stp F (f_load1 (v := .int .u8 (gone : Int)) rfl Try.isAgg5 ((hb5.cell _).trans rfl)) rfl rfl rfl (fun ac F => ?_)
          refine stp F (f_u8andn (a := mem) (b := gone) rfl rfl) rfl rfl rfl (fun ac F => ?_)
          refine stp F (f_move rfl) rfl rfl rfl (fun ac F => ?_)
          refine stp F (f_u8shr (a := (uandn mem gone)) (j := p) (by first | omega | exact uandn_lt _ _ | exact uor_lt _ _ | exact uand_lt _ _) (by omega) rfl rfl) rfl rfl rfl (fun ac F => ?_)
          refine stp F (f_u8and (a := ((uandn mem gone) / 2 ^ p)) (b := 1) rfl rfl) rfl rfl rfl (fun ac F => ?_)
          refine stp F (f_eql rfl rfl) rfl rfl rfl (fun ac F => ?_)
          refine stpEnd ?_
          refine H120 _ _ ?_
          by_cases hc121 : ((uand ((uandn mem gone) / 2 ^ p) 1 : Nat) : Int) = 0
          · have hc := hc121
            replace F := F.setb (k := 75) (b' := true) rfl (decide_eq_true hc)
            clear hc
            refine c_true F rfl ?_
            refine c_seq (fun K122 H123 => ?_)
            refine c_seq (fun K124 H125 => ?_)
            refine c_region ?_
            refine stp F (f_move rfl) rfl rfl rfl (fun ac F => ?_)
            refine stp F (f_indexA (r := ⟨g81, p * 1, none⟩) rfl rfl Try.underlying68 Try.sizeOf23 (by omega) (by omega) (add_eq (by omega))) rfl rfl rfl (fun ac F => ?_)
            refine stp F (f_load1 (v := .slice ((Q p).A) ((Q p).l.length) ((Q p).c)) rfl Try.isAgg23 ((hb83.cell _).trans (r6_get (p := p) (by omega) rfl))) rfl rfl rfl (fun ac F => ?_)
            refine stp F (f_len rfl Try.underlying23) rfl rfl rfl (fun ac F => ?_)
            refine stp F (f_gtr rfl rfl) rfl rfl rfl (fun ac F => ?_)
            refine stpEnd ?_
            refine H125 _ _ ?_
            have hc : ¬ (0 < (((Q p).l.length : Nat) : Int)) := by exact fun h3_ => by have h_ : (Q p).l = [] := (hQl p (by omega)).trans (out_none (fun h => by unfold Al at h; omega)); rw [h_] at h3_; exact absurd h3_ (by decide)
            replace F := F.setb (k := 80) (b' := false) rfl (decide_eq_false hc)
            refine c_false F rfl ?_
            refine wp_skip ?_
            refine H123 _ _ ?_
            refine wp_exit ?_
            refine H114 _ _ ?_
            refine c_region ?_
            refine stp F (f_add (r := ((p + 1 : Nat) : Int)) rfl rfl (by rw [IntKind.wrap_i64]; omega)) rfl rfl rfl (fun ac F => ?_)
            refine stp F (f_move rfl) rfl rfl rfl (fun ac F => ?_)
            refine stpEnd ?_
            refine ⟨6 - (p + 1), ?_, (p + 1), seen, FA, fc, fl, F.sub ⟨rfl, rfl, rfl, rfl, rfl, rfl, trivial⟩, kp0, hb5, hb77, hb83, hk2, hfst, hbs, by omega, hsn, fun ⟨q, h1, h2⟩ => (by by_cases e : q = p; (subst e; unfold Al at h2; omega); exact hal ⟨q, by omega, h2⟩), rfl⟩
            omega
          · have hc := hc121
            replace F := F.setb (k := 75) (b' := false) rfl (decide_eq_false hc)
            clear hc
            refine c_false F rfl ?_
            refine wp_skip ?_
            refine H118 _ _ ?_
            refine c_seq (fun K126 H127 => ?_)
            have halp : Al (uandn mem gone) p := by unfold Al; rcases uand1 ((uandn mem gone) / 2 ^ p) with h_ | h_; omega; exact h_
            have hfl : ∀ x ∈ ob FA, x < wl106.heap.size := fun x hx => (hfst.base_le x hx).2
            refine c_draw 7 (by rfl) (by decide +kernel) (fun wx => Kp [] wl106 wx) (Kp.drew _) ?_
            refine tP F rfl (fun wq => f_move rfl) rfl rfl rfl (fun ac F => ?_)
            refine tP F rfl (fun wq => f_fieldAddr (r := ⟨g3, 3, none⟩) (sz := 5) rfl Try.underlying70 rfl Try.sizeOf68 rfl) rfl rfl rfl (fun ac F => ?_)
            refine tP F rfl (fun wq => f_indexA (r := ⟨g3, 3 + p * 1, none⟩) rfl rfl Try.underlying68 Try.sizeOf23 (by omega) (by omega) (add_eq (by omega))) rfl rfl rfl (fun ac F => ?_)
            refine tQ F rfl (fun wq hq => f_load1 (v := .slice ((R p).A) ((R p).l.length) ((R p).c)) rfl Try.isAgg23 (((hb5.keep hq (by simp)).cell _).trans (fl_get (p := p) (by omega) rfl))) rfl rfl rfl (fun ac F => ?_)
            refine tP F rfl (fun wq => f_move rfl) rfl rfl rfl (fun ac F => ?_)
            refine tP F rfl (fun wq => f_indexA (r := ⟨g81, p * 1, none⟩) rfl rfl Try.underlying68 Try.sizeOf23 (by omega) (by omega) (add_eq (by omega))) rfl rfl rfl (fun ac F => ?_)
            refine tQ F rfl (fun wq hq => f_load1 (v := .slice ((Q p).A) ((Q p).l.length) ((Q p).c)) rfl Try.isAgg23 (((hb83.keep hq (by simp)).cell _).trans (r6_get (p := p) (by omega) rfl))) rfl rfl rfl (fun ac F => ?_)
            refine tTail (fun w128 hq => ?_)
            have hsz := hq.size
            replace hb5 := hb5.keep hq (by simp)
            replace hb77 := hb77.keep hq (by simp)
            replace hb83 := hb83.keep hq (by simp)
            replace hk2 := hk2.trans hq (by simp)
            replace hfst := hfst.keep hq (by simp)
            replace hbs := Nat.le_trans hbs (hq).size
            replace kp0 := kp0.trans hq (by simp)
            refine stpE F (f_buildSlice (el := 23) (vs := [(0, .slice ((R p).A) ((R p).l.length) ((R p).c)), (1, .slice ((Q p).A) ((Q p).l.length) ((Q p).c))]) (cs := [.slice ((R p).A) ((R p).l.length) ((R p).c), .slice ((Q p).A) ((Q p).l.length) ((Q p).c)]) rfl (fun w => by kernel_rfl)) rfl rfl rfl ?_
            rintro _ w130 ac ⟨g129, rfl, nb131⟩ F
            have n133 := nb131.num
            have z134 := nb131.size
            have hsz := (nb131.kp).size
            replace hb5 := hb5.keep (nb131.kp) (by simp)
            replace hb77 := hb77.keep (nb131.kp) (by simp)
            replace hb83 := hb83.keep (nb131.kp) (by simp)
            replace hk2 := hk2.trans (nb131.kp) (by simp)
            replace hfst := hfst.keep (nb131.kp) (by simp)
            replace hbs := Nat.le_trans hbs ((nb131.kp)).size
            replace kp0 := kp0.trans (nb131.kp) (by simp)
            have hb132 : Blk w130 g129 23 ([.slice ((R p).A) ((R p).l.length) ((R p).c), .slice ((Q p).A) ((Q p).l.length) ((Q p).c)]) := nb131.blk
            have hrp : RowOk mem p (R p).l := hOk.2.2 p (by omega)
            have hrl := hrp.1
            have hql : (Q p).l.length ≤ 30 := by rw [hQl p (by omega)]; exact outK_len
            refine stpC F (f_call (P := Try.prog) (f := 32) (vs := [.slice (some ⟨g129, 0, none⟩) 2 2]) rfl Try.call32) (concat_c g129 (fun k => if k = 0 then R p else Q p) _ hb132 (fun k hk => by rcases (show k = 0 ∨ k = 1 by omega) with rfl | rfl; exact ⟨((hS p (by omega)).keep kp0 (by simp)).more (Nat.le_refl _) kp0.size, by show (R p).l.length ≤ 1000; omega⟩; exact ⟨(((hQo p (by omega)).isl.keep hk2 (by simp)).more (Nat.zero_le _) hk2.size), by show (Q p).l.length ≤ 1000; omega⟩)) rfl rfl rfl ?_
            rintro _ w135 ac ⟨CA, cc, rfl, kq136, hcat⟩ F
            have hsz := (kq136).size
            replace hb5 := hb5.keep (kq136) (by simp)
            replace hb77 := hb77.keep (kq136) (by simp)
            replace hb83 := hb83.keep (kq136) (by simp)
            replace hk2 := hk2.trans (kq136) (by simp)
            replace hfst := hfst.keep (kq136) (by simp)
            replace hbs := Nat.le_trans hbs ((kq136)).size
            replace hb132 := hb132.keep (kq136) (by simp)
            replace kp0 := kp0.trans (kq136) (by simp)
            skip
            refine stp F (f_assign rfl) rfl rfl rfl (fun ac F => ?_)
            refine stpEnd ?_
            refine H127 _ _ ?_
            refine c_seq (fun K137 H138 => ?_)
            refine c_region ?_
            refine stp F (f_move rfl) rfl rfl rfl (fun ac F => ?_)
            skip
            refine stpC F (f_call (P := Try.prog) (f := 33) (vs := [.slice CA (((R p).l ++ (Q p).l).length) cc]) rfl Try.call33) (sort_c CA cc _ ((R p).l ++ (Q p).l) _ hcat (by simp; omega)) rfl rfl rfl ?_
            rintro _ w139 ac ⟨rfl, hcur, kq140⟩ F
            have hsz := kq140.size
            have hcge : ∀ x ∈ ob CA, w130.heap.size ≤ x := fun x hx => (hcat.base_le x hx).1
            replace hb5 := hb5.keep kq140 (fun hx => by have := hcge _ hx; omega)
            replace hb77 := hb77.keep kq140 (fun hx => by have := hcge _ hx; omega)
            replace hb83 := hb83.keep kq140 (fun hx => by have := hcge _ hx; omega)
            replace hk2 := hk2.trans kq140 (by intro x hx hl; have := hcge x hx; omega)
            replace hfst := hfst.keep kq140 (by intro x hx hm; have h1_ := hcge x hm; have h2_ := hfl x hx; omega)
            replace hbs := Nat.le_trans hbs kq140.size
            replace kp0 := kp0.trans kq140 (by intro x hx hl; have := hcge x hx; omega)
            rw [show sortI ((R p).l ++ (Q p).l) = (allT (uandn mem gone) (fun p => (R p).l)) from by rw [hQl p (by omega)]; exact told_same (L := (fun p => (R p).l)) (by omega) hrp halp] at hcur
            replace hcur := hcur.more (base' := w90.heap.size) (by omega)
            have hTl : ((R p).l ++ (Q p).l).length = (allT (uandn mem gone) (fun p => (R p).l)).length := by have h_ := (sortI_perm ((R p).l ++ (Q p).l)).length_eq; rw [show sortI ((R p).l ++ (Q p).l) = (allT (uandn mem gone) (fun p => (R p).l)) from by rw [hQl p (by omega)]; exact told_same (L := (fun p => (R p).l)) (by omega) hrp halp] at h_; exact h_.symm
            replace F := F.setv (k := 15) (v' := .slice CA (allT (uandn mem gone) (fun p => (R p).l)).length cc) rfl (congrArg (fun n => Value.slice CA n cc) hTl)
            refine stpEnd ?_
            refine H138 _ _ ?_
            refine c_seq (fun K141 H142 => ?_)
            refine c_seq (fun K143 H144 => ?_)
            refine c_region ?_
            refine stp F (f_move rfl) rfl rfl rfl (fun ac F => ?_)
            have hT30 := allT_len (left := (uandn mem gone)) (L := (fun p => (R p).l))
            refine stpC F (f_call (P := Try.prog) (f := 22) (vs := [.slice CA ((allT (uandn mem gone) (fun p => (R p).l)).length) cc]) rfl Try.call22) (iclone_c CA cc (allT (uandn mem gone) (fun p => (R p).l)) _ (hcur.isl.more (Nat.zero_le _) (Nat.le_refl _)) (by omega)) rfl rfl rfl ?_
            rintro _ w145 ac ⟨DA, dc, rfl, kq146, hdu, _⟩ F
            have hsz := (kq146).size
            replace hb5 := hb5.keep (kq146) (by simp)
            replace hb77 := hb77.keep (kq146) (by simp)
            replace hb83 := hb83.keep (kq146) (by simp)
            replace hk2 := hk2.trans (kq146) (by simp)
            replace hfst := hfst.keep (kq146) (by simp)
            replace hbs := Nat.le_trans hbs ((kq146)).size
            replace hcur := hcur.keep (kq146) (by simp)
            replace kp0 := kp0.trans (kq146) (by simp)
            refine stpC F (f_call (P := Try.prog) (f := 34) (vs := [.slice DA ((allT (uandn mem gone) (fun p => (R p).l)).length) dc]) rfl Try.call34) (compact_c DA dc _ _ (allT (uandn mem gone) (fun p => (R p).l)) _ hdu.isl (by omega) (lt_next allT_lt)) rfl rfl rfl ?_
            rintro _ w147 ac ⟨rfl, kq148⟩ F
            have hsz := (kq148).size
            replace hb5 := hb5.keep (kq148) (by simp)
            replace hb77 := hb77.keep (kq148) (by simp)
            replace hb83 := hb83.keep (kq148) (by simp)
            replace hk2 := hk2.trans (kq148) (by simp)
            replace hfst := hfst.keep (kq148) (by simp)
            replace hbs := Nat.le_trans hbs ((kq148)).size
            replace hcur := hcur.keep (kq148) (by simp)
            replace hdu := hdu.keep (kq148) (by simp)
            replace kp0 := kp0.trans (kq148) (by simp)
            refine stp F (f_len rfl Try.underlying23) rfl rfl rfl (fun ac F => ?_)
            refine stp F (f_move rfl) rfl rfl rfl (fun ac F => ?_)
            refine stp F (f_len rfl Try.underlying23) rfl rfl rfl (fun ac F => ?_)
            refine stp F (f_neq rfl rfl) rfl rfl rfl (fun ac F => ?_)
            refine stpEnd ?_
            skip
            refine H144 _ _ ?_
            have hc : (((allT (uandn mem gone) (fun p => (R p).l)).length : Nat) : Int) = (((allT (uandn mem gone) (fun p => (R p).l)).length : Nat) : Int) := by rfl
            replace F := F.setb (k := 98) (b' := false) rfl (nt (decide_eq_true hc))
            refine c_false F rfl ?_
            refine wp_skip ?_
            refine H142 _ _ ?_
            refine c_seq (fun K149 H150 => ?_)
            refine c_seq (fun K151 H152 => ?_)
            refine c_region ?_
            refine stp F (f_move rfl) rfl rfl rfl (fun ac F => ?_)
            refine stp F (f_not rfl) rfl rfl rfl (fun ac F => ?_)
            refine stpEnd ?_
            refine H152 _ _ ?_
            by_cases hc153 : seen = true
            · have hc := hc153
              replace F := F.setb (k := 13) (b' := true) rfl (hc)
              replace F := F.setb (k := 99) (b' := true) rfl (hc)
              replace F := F.setb (k := 100) (b' := false) rfl (nt (hc))
              clear hc
              refine c_false F rfl ?_
              refine wp_skip ?_
              refine H150 _ _ ?_
              refine c_seq (fun K154 H155 => ?_)
              refine c_region ?_
              refine stp F (f_move rfl) rfl rfl rfl (fun ac F => ?_)
              refine stp F (f_move rfl) rfl rfl rfl (fun ac F => ?_)
              refine stpC F (f_call (P := Try.prog) (f := 8) (vs := [.slice FA fl.length fc, .slice CA ((allT (uandn mem gone) (fun p => (R p).l)).length) cc]) rfl Try.call8) (equal_c FA CA fc cc _ _ _ _ fl (allT (uandn mem gone) (fun p => (R p).l)) _ hfst.isl hcur.isl (by rw [hsn hc153]; omega)) rfl rfl rfl ?_
              rintro _ w156 ac ⟨rfl, kq157⟩ F
              have hsz := (kq157).size
              replace hb5 := hb5.keep (kq157) (by simp)
              replace hb77 := hb77.keep (kq157) (by simp)
              replace hb83 := hb83.keep (kq157) (by simp)
              replace hk2 := hk2.trans (kq157) (by simp)
              replace hfst := hfst.keep (kq157) (by simp)
              replace hbs := Nat.le_trans hbs ((kq157)).size
              replace hcur := hcur.keep (kq157) (by simp)
              replace kp0 := kp0.trans (kq157) (by simp)
              refine stp F (f_not rfl) rfl rfl rfl (fun ac F => ?_)
              refine stpEnd ?_
              refine H155 _ _ ?_
              have hc : fl = (allT (uandn mem gone) (fun p => (R p).l)) := by first | rfl | exact hsn (by assumption)
              replace F := F.setb (k := 104) (b' := true) rfl (decide_eq_true hc)
              replace F := F.setb (k := 105) (b' := false) rfl (nt (decide_eq_true hc))
              refine c_false F rfl ?_
              refine wp_skip ?_
              refine H114 _ _ ?_
              refine c_region ?_
              refine stp F (f_add (r := ((p + 1 : Nat) : Int)) rfl rfl (by rw [IntKind.wrap_i64]; omega)) rfl rfl rfl (fun ac F => ?_)
              refine stp F (f_move rfl) rfl rfl rfl (fun ac F => ?_)
              refine stpEnd ?_
              refine ⟨6 - (p + 1), ?_, (p + 1), true, FA, fc, fl, F.sub ⟨rfl, rfl, rfl, rfl, rfl, rfl, trivial⟩, kp0, hb5, hb77, hb83, hk2, hfst, hbs, by omega, fun _ => hsn hc153, fun _ => rfl, rfl⟩
              omega
            · have hc := hc153
              replace F := F.setb (k := 13) (b' := false) rfl (Bool.eq_false_iff.2 hc)
              replace F := F.setb (k := 99) (b' := false) rfl (Bool.eq_false_iff.2 hc)
              replace F := F.setb (k := 100) (b' := true) rfl (nf (Bool.eq_false_iff.2 hc))
              clear hc
              refine c_true F rfl ?_
              refine c_region ?_
              refine stp F (f_move rfl) rfl rfl rfl (fun ac F => ?_)
              refine stp F (f_assign rfl) rfl rfl rfl (fun ac F => ?_)
              refine stp F (f_assign rfl) rfl rfl rfl (fun ac F => ?_)
              refine stpEnd ?_
              refine H150 _ _ ?_
              refine c_seq (fun K158 H159 => ?_)
              refine c_region ?_
              refine stp F (f_move rfl) rfl rfl rfl (fun ac F => ?_)
              refine stp F (f_move rfl) rfl rfl rfl (fun ac F => ?_)
              refine stpC F (f_call (P := Try.prog) (f := 8) (vs := [.slice CA ((allT (uandn mem gone) (fun p => (R p).l)).length) cc, .slice CA ((allT (uandn mem gone) (fun p => (R p).l)).length) cc]) rfl Try.call8) (equal_c CA CA cc cc _ _ _ _ (allT (uandn mem gone) (fun p => (R p).l)) (allT (uandn mem gone) (fun p => (R p).l)) _ hcur.isl hcur.isl (by omega)) rfl rfl rfl ?_
              rintro _ w160 ac ⟨rfl, kq161⟩ F
              have hsz := (kq161).size
              replace hb5 := hb5.keep (kq161) (by simp)
              replace hb77 := hb77.keep (kq161) (by simp)
              replace hb83 := hb83.keep (kq161) (by simp)
              replace hk2 := hk2.trans (kq161) (by simp)
              replace hfst := hfst.keep (kq161) (by simp)
              replace hbs := Nat.le_trans hbs ((kq161)).size
              replace hcur := hcur.keep (kq161) (by simp)
              replace kp0 := kp0.trans (kq161) (by simp)
              refine stp F (f_not rfl) rfl rfl rfl (fun ac F => ?_)
              refine stpEnd ?_
              refine H159 _ _ ?_
              have hc : (allT (uandn mem gone) (fun p => (R p).l)) = (allT (uandn mem gone) (fun p => (R p).l)) := by first | rfl | exact hsn (by assumption)
              replace F := F.setb (k := 104) (b' := true) rfl (decide_eq_true hc)
              replace F := F.setb (k := 105) (b' := false) rfl (nt (decide_eq_true hc))
              refine c_false F rfl ?_
              refine wp_skip ?_
              refine H114 _ _ ?_
              refine c_region ?_
              refine stp F (f_add (r := ((p + 1 : Nat) : Int)) rfl rfl (by rw [IntKind.wrap_i64]; omega)) rfl rfl rfl (fun ac F => ?_)
              refine stp F (f_move rfl) rfl rfl rfl (fun ac F => ?_)
              refine stpEnd ?_
              replace hfst := hcur
              refine ⟨6 - (p + 1), ?_, (p + 1), true, CA, cc, (allT (uandn mem gone) (fun p => (R p).l)), F.sub ⟨rfl, rfl, rfl, rfl, rfl, rfl, trivial⟩, kp0, hb5, hb77, hb83, hk2, hfst, hbs, by omega, fun _ => rfl, fun _ => rfl, rfl⟩
              omega
        · have hc := hc112
          replace F := F.setb (k := 64) (b' := false) rfl (decide_eq_false hc)
          clear hc
          refine c_false F rfl ?_
          refine wp_exit ?_
          refine H103 _ _ ?_
          refine c_seq (fun K162 H163 => ?_)
          have hnx := next_e hgood.2
          have hl64 : uandn mem gone < 64 := by have := uandn_le (y := gone) hmem; have := hnx.1.2.2.2; omega
          refine c_region ?_
          refine stp F (f_move rfl) rfl rfl rfl (fun ac F => ?_)
          refine stp F (f_move rfl) rfl rfl rfl (fun ac F => ?_)
          by_cases hc164 : seen = true
          · have hc := hc164
            replace F := F.setb (k := 13) (b' := true) rfl (hc)
            replace F := F.setb (k := 107) (b' := true) rfl (hc)
            replace F := F.setb (k := 108) (b' := true) rfl (hc)
            clear hc
            refine stp F (f_loadN rfl Try.isAgg70 Try.sizeOf70 hb77.rdAll) rfl rfl rfl (fun ac F => ?_)
            refine stpC F (f_call (P := Try.prog) (f := 35) (vs := [.agg #[.int .i64 ((nextR num mem gone come).num), .int .u8 (((nextR num mem gone come).mem : Nat) : Int), .int .u8 (0 : Int), .slice none 0 0, .slice none 0 0, .slice none 0 0, .slice none 0 0, .slice none 0 0, .slice none 0 0]]) rfl Try.call35) (chk_c (nextR num mem gone come).num (nextR num mem gone come).mem 0 nilR _ (nx_lt hmem hgone hcome) (by decide) (nilR_sl _)) rfl rfl rfl ?_
            rintro _ w165 ac ⟨e3, rfl, hev3, kq166⟩ F
            have hsz := (kq166).size
            replace hb5 := hb5.keep (kq166) (by simp)
            replace hb77 := hb77.keep (kq166) (by simp)
            replace hb83 := hb83.keep (kq166) (by simp)
            replace hk2 := hk2.trans (kq166) (by simp)
            replace hfst := hfst.keep (kq166) (by simp)
            replace hbs := Nat.le_trans hbs ((kq166)).size
            replace kp0 := kp0.trans (kq166) (by simp)
            have he3 : e3 = 0 := hev3.2 (next_view hmem hgone hcome hgood.2)
            refine stp F (f_eql rfl rfl) rfl rfl rfl (fun ac F => ?_)
            refine stp F (f_pickT rfl rfl) rfl rfl rfl (fun ac F => ?_)
            refine stp F (f_assign rfl) rfl rfl rfl (fun ac F => ?_)
            refine stpEnd ?_
            refine H163 _ _ ?_
            refine wp_ret ?_
            refine ret1 F rfl rfl ?_
            exact ⟨by simp [he3], kp0⟩
          · have hc := hc164
            exact absurd (hal (by obtain ⟨q, h1, h2⟩ := some_al (left_ne hnx.2.2.2.1) hl64; exact ⟨q, by omega, h2⟩)) hc
    · have hc := hc97
      exact absurd rfl hc
  · refine c_region ?_
    refine stp F (f_loadN rfl Try.isAgg70 Try.sizeOf70 (hb5.rd (o := 0) (v := .agg #[.int .i64 num, .int .u8 (mem : Int), .int .u8 (gone : Int), .slice ((R 0).A) ((R 0).l.length) ((R 0).c), .slice ((R 1).A) ((R 1).l.length) ((R 1).c), .slice ((R 2).A) ((R 2).l.length) ((R 2).c), .slice ((R 3).A) ((R 3).l.length) ((R 3).c), .slice ((R 4).A) ((R 4).l.length) ((R 4).c), .slice ((R 5).A) ((R 5).l.length) ((R 5).c)]) rfl (by intro j u hu; exact part_at (ps := [.int .i64 num, .int .u8 (mem : Int), .int .u8 (gone : Int), .slice ((R 0).A) ((R 0).l.length) ((R 0).c), .slice ((R 1).A) ((R 1).l.length) ((R 1).c), .slice ((R 2).A) ((R 2).l.length) ((R 2).c), .slice ((R 3).A) ((R 3).l.length) ((R 3).c), .slice ((R 4).A) ((R 4).l.length) ((R 4).c), .slice ((R 5).A) ((R 5).l.length) ((R 5).c)]) (by rfl) (by simpa [Value.cells] using hu)))) rfl rfl rfl (fun ac F => ?_)
    refine stp F (f_move rfl) rfl rfl rfl (fun ac F => ?_)
    refine stpC F (f_call (P := Try.prog) (f := 31) (vs := [.agg #[.int .i64 num, .int .u8 (mem : Int), .int .u8 (gone : Int), .slice ((R 0).A) ((R 0).l.length) ((R 0).c), .slice ((R 1).A) ((R 1).l.length) ((R 1).c), .slice ((R 2).A) ((R 2).l.length) ((R 2).c), .slice ((R 3).A) ((R 3).l.length) ((R 3).c), .slice ((R 4).A) ((R 4).l.length) ((R 4).c), .slice ((R 5).A) ((R 5).l.length) ((R 5).c)], .int .u8 (come : Int)]) rfl Try.call31) (change_bad num mem gone come R _ hmem hgone hcome hnum (fun p hp => ((hS p hp).keep kp0 (by simp)).more (Nat.le_refl _) kp0.size) hgood) rfl rfl rfl ?_
    rintro _ w167 ac ⟨e, hene, rfl, kq168⟩ F
    have hsz := (kq168).size
    replace hb5 := hb5.keep (kq168) (by simp)
    replace hb15 := hb15.keep (kq168) (by simp)
    replace hb45 := hb45.keep (kq168) (by simp)
    replace hb51 := hb51.keep (kq168) (by simp)
    replace hb66 := hb66.keep (kq168) (by simp)
    replace kp0 := kp0.trans (kq168) (by simp)
    refine stp F (f_move rfl) rfl rfl rfl (fun ac F => ?_)
    refine stp F (f_extract (vs := [.agg #[.int .i64 0, .int .u8 (0 : Int), .int .u8 (0 : Int), .slice none 0 0, .slice none 0 0, .slice none 0 0, .slice none 0 0, .slice none 0 0, .slice none 0 0], .agg #[.slice none 0 0, .slice none 0 0, .slice none 0 0, .slice none 0 0, .slice none 0 0, .slice none 0 0], .int .i64 e]) rfl rfl) rfl rfl rfl (fun ac F => ?_)
    refine stp F (f_extract (vs := [.agg #[.int .i64 0, .int .u8 (0 : Int), .int .u8 (0 : Int), .slice none 0 0, .slice none 0 0, .slice none 0 0, .slice none 0 0, .slice none 0 0, .slice none 0 0], .agg #[.slice none 0 0, .slice none 0 0, .slice none 0 0, .slice none 0 0, .slice none 0 0, .slice none 0 0], .int .i64 e]) rfl rfl) rfl rfl rfl (fun ac F => ?_)
    refine stp F (f_extract (vs := [.agg #[.int .i64 0, .int .u8 (0 : Int), .int .u8 (0 : Int), .slice none 0 0, .slice none 0 0, .slice none 0 0, .slice none 0 0, .slice none 0 0, .slice none 0 0], .agg #[.slice none 0 0, .slice none 0 0, .slice none 0 0, .slice none 0 0, .slice none 0 0, .slice none 0 0], .int .i64 e]) rfl rfl) rfl rfl rfl (fun ac F => ?_)
    refine stpE F (f_alloc (cs := [.int .i64 0, .int .u8 0, .int .u8 0, .slice none 0 0, .slice none 0 0, .slice none 0 0, .slice none 0 0, .slice none 0 0, .slice none 0 0]) Try.zeroValue70 rfl) rfl rfl rfl ?_
    rintro _ w170 ac ⟨g169, rfl, nb172⟩ F
    have n173 := nb172.num
    have z174 := nb172.size
    have hsz := (nb172.kp).size
    replace hb5 := hb5.keep (nb172.kp) (by simp)
    replace hb15 := hb15.keep (nb172.kp) (by simp)
    replace hb45 := hb45.keep (nb172.kp) (by simp)
    replace hb51 := hb51.keep (nb172.kp) (by simp)
    replace hb66 := hb66.keep (nb172.kp) (by simp)
    replace kp0 := kp0.trans (nb172.kp) (by simp)
    have hb171 : Blk w170 g169 70 ([.int .i64 0, .int .u8 0, .int .u8 0, .slice none 0 0, .slice none 0 0, .slice none 0 0, .slice none 0 0, .slice none 0 0, .slice none 0 0]) := nb172.blk
    refine stpE F (f_alloc (cs := [.slice none 0 0, .slice none 0 0, .slice none 0 0, .slice none 0 0, .slice none 0 0, .slice none 0 0]) Try.zeroValue68 rfl) rfl rfl rfl ?_
    rintro _ w176 ac ⟨g175, rfl, nb178⟩ F
    have n179 := nb178.num
    have z180 := nb178.size
    have hsz := (nb178.kp).size
    replace hb5 := hb5.keep (nb178.kp) (by simp)
    replace hb15 := hb15.keep (nb178.kp) (by simp)
    replace hb45 := hb45.keep (nb178.kp) (by simp)
    replace hb51 := hb51.keep (nb178.kp) (by simp)
    replace hb66 := hb66.keep (nb178.kp) (by simp)
    replace hb171 := hb171.keep (nb178.kp) (by simp)
    replace kp0 := kp0.trans (nb178.kp) (by simp)
    have hb177 : Blk w176 g175 68 (rows6 nilR) := nb178.blk
    refine stpW F (f_store (v := .agg #[.int .i64 0, .int .u8 (0 : Int), .int .u8 (0 : Int), .slice none 0 0, .slice none 0 0, .slice none 0 0, .slice none 0 0, .slice none 0 0, .slice none 0 0]) (vs := [.int .i64 0, .int .u8 (0 : Int), .int .u8 (0 : Int), .slice none 0 0, .slice none 0 0, .slice none 0 0, .slice none 0 0, .slice none 0 0, .slice none 0 0]) rfl rfl hb171 Try.sizeOf70 rfl rfl (by simp) (by simp [plainV])) rfl rfl ?_
    rintro w181 ac wr182 F
    have z183 := wr182.size
    have hsz := (wr182.kp).size
    replace hb5 := hb5.keep (wr182.kp) (by have := hb5.lt; simp; omega)
    replace hb15 := hb15.keep (wr182.kp) (by have := hb15.lt; simp; omega)
    replace hb45 := hb45.keep (wr182.kp) (by have := hb45.lt; simp; omega)
    replace hb51 := hb51.keep (wr182.kp) (by have := hb51.lt; simp; omega)
    replace hb66 := hb66.keep (wr182.kp) (by have := hb66.lt; simp; omega)
    replace hb177 := hb177.keep (wr182.kp) (by have := hb177.lt; simp; omega)
    replace kp0 := kp0.trans (wr182.kp) (by intro x hx hl; simp at hx; omega)
    replace hb171 : Blk w181 g169 70 ([.int .i64 0, .int .u8 (0 : Int), .int .u8 (0 : Int), .slice none 0 0, .slice none 0 0, .slice none 0 0, .slice none 0 0, .slice none 0 0, .slice none 0 0]) := wr182.blk
    refine stpW F (f_store (v := .agg #[.slice none 0 0, .slice none 0 0, .slice none 0 0, .slice none 0 0, .slice none 0 0, .slice none 0 0]) (vs := [.slice none 0 0, .slice none 0 0, .slice none 0 0, .slice none 0 0, .slice none 0 0, .slice none 0 0]) rfl rfl hb177 Try.sizeOf68 rfl rfl (by rw [rows6_len]; simp) (by simp [plainV])) rfl rfl ?_
    rintro w184 ac wr185 F
    have z186 := wr185.size
    have hsz := (wr185.kp).size
    replace hb5 := hb5.keep (wr185.kp) (by have := hb5.lt; simp; omega)
    replace hb15 := hb15.keep (wr185.kp) (by have := hb15.lt; simp; omega)
    replace hb45 := hb45.keep (wr185.kp) (by have := hb45.lt; simp; omega)
    replace hb51 := hb51.keep (wr185.kp) (by have := hb51.lt; simp; omega)
    replace hb66 := hb66.keep (wr185.kp) (by have := hb66.lt; simp; omega)
    replace hb171 := hb171.keep (wr185.kp) (by have := hb171.lt; simp; omega)
    replace kp0 := kp0.trans (wr185.kp) (by intro x hx hl; simp at hx; omega)
    replace hb177 : Blk w184 g175 68 (rows6 nilR) := ((wr185.blk).eqv rfl)
    refine stp F (f_assign rfl) rfl rfl rfl (fun ac F => ?_)
    refine stpEnd ?_
    refine H72 _ _ ?_
    refine c_seq (fun K187 H188 => ?_)
    refine c_seq (fun K189 H190 => ?_)
    refine c_region ?_
    refine stp F (f_move rfl) rfl rfl rfl (fun ac F => ?_)
    refine stp F (f_neq rfl rfl) rfl rfl rfl (fun ac F => ?_)
    refine stpEnd ?_
    refine H190 _ _ ?_
    by_cases hc191 : e = 0
    · have hc := hc191
      exact absurd hc hene
    · have hc := hc191
      replace F := F.setb (k := 58) (b' := true) rfl (nf (decide_eq_false hc))
      clear hc
      refine c_true F rfl ?_
      refine c_seq (fun K192 H193 => ?_)
      refine c_region ?_
      refine stp F (f_fieldAddr (r := ⟨g169, 0, none⟩) (sz := 1) rfl Try.underlying70 rfl Try.sizeOf67 rfl) rfl rfl rfl (fun ac F => ?_)
      refine stp F (f_loadN (vs := #[.int .i64 0, .int .u8 (0 : Int)]) rfl Try.isAgg67 Try.sizeOf67 (hb171.rd (o := 0) rfl (by intro j u hu; exact part_at (ps := [.int .i64 0, .int .u8 (0 : Int)]) (by rfl) (by simpa [Value.cells] using hu)))) rfl rfl rfl (fun ac F => ?_)
      refine stp F (f_build (vs := []) (v := .agg #[.int .i64 0, .int .u8 0]) rfl (fun w => by kernel_rfl)) rfl rfl rfl (fun ac F => ?_)
      refine stp F (f_eqView0 rfl rfl) rfl rfl rfl (fun ac F => ?_)
      refine stp F (f_assign rfl) rfl rfl rfl (fun ac F => ?_)
      refine stpEnd ?_
      refine H193 _ _ ?_
      refine wp_ret ?_
      refine ret1 F rfl rfl ?_
      exact ⟨rfl, kp0⟩

end Go.Proofs.Ytkbngaollbmcbaa.KK
