/- The tied card of CausalAll is proved: once everyone has heard everything, in whatever order, everyone was told everything, once, and holds nothing. The card's own condition: the three listed tables are laid as the program's text lays them. -/
import Derived.Test.YtkbngaollbmcbaaDoorPm
import Derived.Test.YtkbngaollbmcbaaDoorPl
import Derived.Test.YtkbngaollbmcbaaDoorRows
import Derived.Test.YtkbngaollbmcbaaDoorCards
import Derived.Test.YtkbngaollbmcbaaDoorTie
import Derived.WalkKit
import Derived.ProofKit
import Derived.OpenShut
import Derived.ChangeOld
import Derived.Carry
import Derived.Below
import Derived.Deep.Slices
import Derived.Deep.Fields
import Derived.LaidMore
import Derived.SevenTiedAt
import Derived.Stop.Joined

namespace Go.Proofs.YtkbngaollbmcbaaDoor.KK
open Go Go.RowKit

set_option maxHeartbeats 4000000 in
theorem ixml_c (A : Option Addr) (c lo hi : Nat) (ms : List Ml) (m : Ml) (w0 : World) (hl : Sl w0 lo hi 8 A ms.length c (fun i => mlV (ms.getD i default))) (hn : ms.length < 4611686018427387904) (hmem : ∃ i, i < ms.length ∧ EqM m (ms.getD i default)) : Calls Tryd.prog 14 #[.slice A ms.length c, .agg #[.int .i64 m.f, .int .i64 (m.a 0), .int .i64 (m.a 1), .int .i64 (m.a 2), .int .i64 (m.a 3), .int .i64 (m.a 4), .int .i64 (m.a 5), .string m.t]] w0 (Ret fun v w' => ∃ r : Nat, v = .int .i64 (r : Int) ∧ Kp [] w0 w') := by
  refine enter (n := 19) Tryd.func14 rfl rfl rfl (fun ac F => ?_)
  have kp0 := Kp.refl ([] : List Nat) w0
  refine c_seq (fun K1 H2 => ?_)
  refine c_region ?_
  refine stpE F (f_box (cs := [.int .i64 m.f, .int .i64 (m.a 0), .int .i64 (m.a 1), .int .i64 (m.a 2), .int .i64 (m.a 3), .int .i64 (m.a 4), .int .i64 (m.a 5), .string m.t]) rfl rfl) rfl rfl rfl ?_
  rintro _ w4 ac ⟨g3, rfl, nb6⟩ F
  have n7 := nb6.num
  have z8 := nb6.size
  have hsz := (nb6.kp).size
  replace hl := hl.keep (nb6.kp) (by simp)
  replace kp0 := kp0.trans (nb6.kp) (by simp)
  have hb5 : Blk w4 g3 38 ([.int .i64 m.f, .int .i64 (m.a 0), .int .i64 (m.a 1), .int .i64 (m.a 2), .int .i64 (m.a 3), .int .i64 (m.a 4), .int .i64 (m.a 5), .string m.t]) := nb6.blk
  refine stp F (f_assign rfl) rfl rfl rfl (fun ac F => ?_)
  refine stpEnd ?_
  refine H2 _ _ ?_
  refine c_seq (fun K9 H10 => ?_)
  refine c_seq (fun K11 H12 => ?_)
  refine c_region ?_
  refine stp F (f_move rfl) rfl rfl rfl (fun ac F => ?_)
  refine stp F (f_len rfl Tryd.underlying28) rfl rfl rfl (fun ac F => ?_)
  refine stp F (f_move rfl) rfl rfl rfl (fun ac F => ?_)
  refine stpEnd ?_
  refine H12 _ _ ?_
  refine wp_block ?_
  refine c_loop (fun mx ax wx => ∃ (k : Nat), Fr ax 19 [(0, .slice A ms.length c), (3, .pointer (some ⟨g3, 0, none⟩)), (7, .int .i64 ((ms.length : Nat) : Int)), (8, .int .i64 (k : Int))] ∧ Kp [] w0 wx ∧ Sl wx lo hi 8 A ms.length c (fun i => mlV (ms.getD i default)) ∧ Blk wx g3 38 ([.int .i64 m.f, .int .i64 (m.a 0), .int .i64 (m.a 1), .int .i64 (m.a 2), .int .i64 (m.a 3), .int .i64 (m.a 4), .int .i64 (m.a 5), .string m.t]) ∧ (k ≤ ms.length) ∧ (∀ i, i < k → ¬ EqM m (ms.getD i default)) ∧ mx = ms.length - k) (ms.length - 0) ?_ ?_
  · exact ⟨0, F.sub ⟨rfl, rfl, rfl, rfl, trivial⟩, kp0, hl, hb5, by omega, fun i hi => by omega, rfl⟩
  · clear F kp0 hl hb5
    rintro m14 ac wl13 ⟨k, F, kp0, hl, hb5, hk, hno, hm⟩
    have hsz := kp0.size
    have lt_hb5 := hb5.lt
    refine c_seq (fun K15 H16 => ?_)
    refine c_region ?_
    refine stp F (f_lss rfl rfl) rfl rfl rfl (fun ac F => ?_)
    refine stpEnd ?_
    refine H16 _ _ ?_
    refine c_seq (fun K17 H18 => ?_)
    by_cases hc19 : (k : Int) < ((ms.length : Nat) : Int)
    · have hc := hc19
      replace F := F.setb (k := 9) (b' := true) rfl (decide_eq_true hc)
      clear hc
      refine c_true F rfl ?_
      refine wp_skip ?_
      refine H18 _ _ ?_
      refine c_seq (fun K20 H21 => ?_)
      refine wp_block ?_
      refine c_seq (fun K22 H23 => ?_)
      refine c_region ?_
      refine stp F (f_move rfl) rfl rfl rfl (fun ac F => ?_)
      refine stp F (f_assign rfl) rfl rfl rfl (fun ac F => ?_)
      refine stpEnd ?_
      refine H23 _ _ ?_
      refine c_seq (fun K24 H25 => ?_)
      refine c_draw 6 (by rfl) (by decide +kernel) (fun wx => Kp [] wl13 wx) (Kp.drew _) ?_
      refine tQ F rfl (fun wq hq => f_loadN rfl Tryd.isAgg38 Tryd.sizeOf38 (hb5.keep hq (by simp)).rdAll) rfl rfl rfl (fun ac F => ?_)
      refine tP F rfl (fun wq => f_move rfl) rfl rfl rfl (fun ac F => ?_)
      refine tP F rfl (fun wq => f_move rfl) rfl rfl rfl (fun ac F => ?_)
      refine tP F rfl (fun wq => f_indexS (r := ((adr A).add (k * 8))) rfl rfl Tryd.underlying28 Tryd.sizeOf38 (by omega) (by omega) (hl.some_ (by omega)).1 (by rw [show Int.toNat (k : Int) = k from by omega])) rfl rfl rfl (fun ac F => ?_)
      refine tQ F rfl (fun wq hq => f_loadN rfl Tryd.isAgg38 Tryd.sizeOf38 ((hl.keep hq (by simp)).rd (i := k) (by omega) rfl)) rfl rfl rfl (fun ac F => ?_)
      refine tP F rfl (fun wq => f_eqMl (a := m) (b := (ms.getD k default)) rfl rfl) rfl rfl rfl (fun ac F => ?_)
      refine tEnd (fun w26 hq => ?_)
      have hsz := hq.size
      replace hl := hl.keep hq (by simp)
      replace hb5 := hb5.keep hq (by simp)
      replace kp0 := kp0.trans hq (by simp)
      refine H25 _ _ ?_
      by_cases hc27 : EqM m (ms.getD k default)
      · have hc := hc27
        replace F := F.setb (k := 16) (b' := true) rfl (decide_eq_true hc)
        clear hc
        refine c_true F rfl ?_
        refine c_seq (fun K28 H29 => ?_)
        refine c_region ?_
        refine stp F (f_move rfl) rfl rfl rfl (fun ac F => ?_)
        refine stp F (f_assign rfl) rfl rfl rfl (fun ac F => ?_)
        refine stpEnd ?_
        refine H29 _ _ ?_
        refine wp_ret ?_
        refine ret1 F rfl rfl ?_
        exact ⟨k, rfl, kp0⟩
      · have hc := hc27
        replace F := F.setb (k := 16) (b' := false) rfl (decide_eq_false hc)
        clear hc
        refine c_false F rfl ?_
        refine wp_skip ?_
        refine H21 _ _ ?_
        refine c_region ?_
        refine stp F (f_add (r := ((k + 1 : Nat) : Int)) rfl rfl (by rw [IntKind.wrap_i64]; omega)) rfl rfl rfl (fun ac F => ?_)
        refine stp F (f_move rfl) rfl rfl rfl (fun ac F => ?_)
        refine stpEnd ?_
        refine ⟨ms.length - (k + 1), ?_, (k + 1), F.sub ⟨rfl, rfl, rfl, rfl, trivial⟩, kp0, hl, hb5, by omega, upto_next hno hc27, rfl⟩
        omega
    · have hc := hc19
      replace F := F.setb (k := 9) (b' := false) rfl (decide_eq_false hc)
      clear hc
      refine c_false F rfl ?_
      refine wp_exit ?_
      refine H10 _ _ ?_
      refine c_seq (fun K30 H31 => ?_)
      refine c_region ?_
      refine stp F (f_assign rfl) rfl rfl rfl (fun ac F => ?_)
      refine stpEnd ?_
      refine H31 _ _ ?_
      refine wp_ret ?_
      refine ret1 F rfl rfl ?_
      exact absurd hmem (fun ⟨i, h1, h2⟩ => hno i (by omega) h2)

set_option maxHeartbeats 4000000 in
theorem has_c (A : Option Addr) (c lo hi : Nat) (ms : List Ml) (m : Ml) (w0 : World) (hl : Sl w0 lo hi 8 A ms.length c (fun i => mlV (ms.getD i default))) (hn : ms.length < 4611686018427387904) (hmem : ∃ i, i < ms.length ∧ EqM m (ms.getD i default)) : Calls Tryd.prog 9 #[.slice A ms.length c, .agg #[.int .i64 m.f, .int .i64 (m.a 0), .int .i64 (m.a 1), .int .i64 (m.a 2), .int .i64 (m.a 3), .int .i64 (m.a 4), .int .i64 (m.a 5), .string m.t]] w0 (Ret fun v w' => v = .bool true ∧ Kp [] w0 w') := by
  refine enter (n := 9) Tryd.func9 rfl rfl rfl (fun ac F => ?_)
  have kp0 := Kp.refl ([] : List Nat) w0
  refine c_seq (fun K1 H2 => ?_)
  refine c_region ?_
  refine stpE F (f_box (cs := [.int .i64 m.f, .int .i64 (m.a 0), .int .i64 (m.a 1), .int .i64 (m.a 2), .int .i64 (m.a 3), .int .i64 (m.a 4), .int .i64 (m.a 5), .string m.t]) rfl rfl) rfl rfl rfl ?_
  rintro _ w4 ac ⟨g3, rfl, nb6⟩ F
  have n7 := nb6.num
  have z8 := nb6.size
  have hsz := (nb6.kp).size
  replace hl := hl.keep (nb6.kp) (by simp)
  replace kp0 := kp0.trans (nb6.kp) (by simp)
  have hb5 : Blk w4 g3 38 ([.int .i64 m.f, .int .i64 (m.a 0), .int .i64 (m.a 1), .int .i64 (m.a 2), .int .i64 (m.a 3), .int .i64 (m.a 4), .int .i64 (m.a 5), .string m.t]) := nb6.blk
  refine stp F (f_assign rfl) rfl rfl rfl (fun ac F => ?_)
  refine stpEnd ?_
  refine H2 _ _ ?_
  refine c_seq (fun K9 H10 => ?_)
  refine c_region ?_
  refine stp F (f_move rfl) rfl rfl rfl (fun ac F => ?_)
  refine stp F (f_loadN rfl Tryd.isAgg38 Tryd.sizeOf38 hb5.rdAll) rfl rfl rfl (fun ac F => ?_)
  refine stpC F (f_call (P := Tryd.prog) (f := 14) (vs := [.slice A ms.length c, .agg #[.int .i64 m.f, .int .i64 (m.a 0), .int .i64 (m.a 1), .int .i64 (m.a 2), .int .i64 (m.a 3), .int .i64 (m.a 4), .int .i64 (m.a 5), .string m.t]]) rfl Tryd.call14) (ixml_c A c lo hi ms m _ hl hn hmem) rfl rfl rfl ?_
  rintro _ w11 ac ⟨r, rfl, kq12⟩ F
  have hsz := (kq12).size
  replace hl := hl.keep (kq12) (by simp)
  replace hb5 := hb5.keep (kq12) (by simp)
  replace kp0 := kp0.trans (kq12) (by simp)
  refine stp F (f_geq rfl rfl) rfl rfl rfl (fun ac F => ?_)
  refine stp F (f_assign rfl) rfl rfl rfl (fun ac F => ?_)
  refine stpEnd ?_
  refine H10 _ _ ?_
  refine wp_ret ?_
  refine ret1 F rfl rfl ?_
  exact ⟨by simp, kp0⟩

set_option maxHeartbeats 4000000 in
theorem all_c (A : Option Addr) (c : Nat) (ps : List Pst) (turn : Int) (w0 : World) (hl0 : Sl w0 0 w0.heap.size 3 A ps.length c (fun i => psV (ps.getD i default))) (hps : ∀ x ∈ ps, Pst.ok x) (hn : ps.length ≤ 9223372036854775807) (htab : Tab Tryd.prog w0) : Calls Tryd.prog 4 #[.slice A ps.length c, .int .i64 turn] w0 (Ret fun v w' => v = .bool true ∧ Kp [] w0 w') := by
  refine enter (n := 138) Tryd.func4 rfl rfl rfl (fun ac F => ?_)
  have kp0 := Kp.refl ([] : List Nat) w0
  have hls := hl0
  refine c_seq (fun K1 H2 => ?_)
  refine c_region ?_
  refine stp F (f_assign rfl) rfl rfl rfl (fun ac F => ?_)
  refine stpEnd ?_
  refine H2 _ _ ?_
  refine c_seq (fun K3 H4 => ?_)
  refine c_seq (fun K5 H6 => ?_)
  refine c_region ?_
  refine stp F (f_build (vs := []) (v := .agg #[.int .i64 0, .int .i64 0, .int .i64 0]) rfl (fun w => by kernel_rfl)) rfl rfl rfl (fun ac F => ?_)
  refine stpE F (f_buildSlice (el := 27) (vs := [(0, .agg #[.int .i64 0, .int .i64 0, .int .i64 0])]) (cs := [.int .i64 0, .int .i64 0, .int .i64 0]) rfl (fun w => by kernel_rfl)) rfl rfl rfl ?_
  rintro _ w8 ac ⟨g7, rfl, nb9⟩ F
  have n11 := nb9.num
  have z12 := nb9.size
  have hsz := (nb9.kp).size
  replace hl0 := hl0.keep (nb9.kp) (by simp)
  replace kp0 := kp0.trans (nb9.kp) (by simp)
  have hb10 : Blk w8 g7 27 ([.int .i64 0, .int .i64 0, .int .i64 0]) := nb9.blk
  refine stpC F (f_call (P := Tryd.prog) (f := 6) (vs := [.slice (some ⟨g7, 0, none⟩) 1 1]) rfl Tryd.call6) (play_c (some ⟨g7, 0, none⟩) 1 all0 _ (ps_sl hb10 rfl (by decide)) (by decide +kernel) (by decide) (ok_take _) (htab.kp kp0)) rfl rfl rfl ?_
  rintro _ w13 ac ⟨ga, rfl, kq14, Ra, hva, hga, hRa⟩ F
  have hsz := (kq14).size
  replace hl0 := hl0.keep (kq14) (by simp)
  replace hb10 := hb10.keep (kq14) (by simp)
  replace kp0 := kp0.trans (kq14) (by simp)
  have h4a := (hRa.own 4 (by omega)).msl
  have h4l : (Ra 4).vs.length = 1 := by rw [hva, all0_cast]
  refine stp F (f_move rfl) rfl rfl rfl (fun ac F => ?_)
  refine stp F (f_extract (vs := [.pointer (some ⟨ga, 0, none⟩), .bool true]) rfl rfl) rfl rfl rfl (fun ac F => ?_)
  refine stp F (f_extract (vs := [.pointer (some ⟨ga, 0, none⟩), .bool true]) rfl rfl) rfl rfl rfl (fun ac F => ?_)
  refine stp F (f_assign rfl) rfl rfl rfl (fun ac F => ?_)
  refine stp F (f_assign rfl) rfl rfl rfl (fun ac F => ?_)
  refine stpEnd ?_
  refine H6 _ _ ?_
  refine c_seq (fun K15 H16 => ?_)
  refine c_region ?_
  refine stp F (f_move rfl) rfl rfl rfl (fun ac F => ?_)
  refine stp F (f_not rfl) rfl rfl rfl (fun ac F => ?_)
  refine stp F (f_move rfl) rfl rfl rfl (fun ac F => ?_)
  refine stp F (f_move rfl) rfl rfl rfl (fun ac F => ?_)
  refine stp F (f_nilCheck rfl) rfl rfl rfl (fun ac F => ?_)
  refine stp F (f_fieldAddr (r := ⟨ga, 32, none⟩) (sz := 0) rfl Tryd.underlying36 rfl Tryd.sizeOf28 rfl) rfl rfl rfl (fun ac F => ?_)
  refine stp F (f_load1 (v := .slice ((Ra 4).A) ((Ra 4).vs.length) ((Ra 4).c)) rfl Tryd.isAgg28 ((hga.cell _).trans rfl)) rfl rfl rfl (fun ac F => ?_)
  refine stp F (f_len rfl Tryd.underlying28) rfl rfl rfl (fun ac F => ?_)
  refine stp F (f_neq rfl rfl) rfl rfl rfl (fun ac F => ?_)
  refine stp F (f_pickF rfl rfl) rfl rfl rfl (fun ac F => ?_)
  refine stp F (f_move rfl) rfl rfl rfl (fun ac F => ?_)
  have hc : (((Ra 4).vs.length : Nat) : Int) = 1 := by omega
  replace F := F.setb (k := 28) (b' := false) rfl (nt (decide_eq_true hc))
  replace F := F.setb (k := 29) (b' := false) rfl (nt (decide_eq_true hc))
  replace F := F.setb (k := 30) (b' := false) rfl (nt (decide_eq_true hc))
  refine stp F (f_move rfl) rfl rfl rfl (fun ac F => ?_)
  refine stp F (f_nilCheck rfl) rfl rfl rfl (fun ac F => ?_)
  refine stp F (f_fieldAddr (r := ⟨ga, 32, none⟩) (sz := 0) rfl Tryd.underlying36 rfl Tryd.sizeOf28 rfl) rfl rfl rfl (fun ac F => ?_)
  refine stp F (f_load1 (v := .slice ((Ra 4).A) ((Ra 4).vs.length) ((Ra 4).c)) rfl Tryd.isAgg28 ((hga.cell _).trans rfl)) rfl rfl rfl (fun ac F => ?_)
  refine stp F (f_indexS (r := ((adr ((Ra 4).A)).add (0 * 8))) rfl rfl Tryd.underlying28 Tryd.sizeOf38 (by omega) (by omega) (h4a.some_ (by omega)).1 (by rw [show Int.toNat 0 = 0 from by omega])) rfl rfl rfl (fun ac F => ?_)
  refine stp F (f_fieldAddr (r := (((adr ((Ra 4).A)).add (0 * 8)).add 1)) (sz := 5) rfl Tryd.underlying38 rfl Tryd.sizeOf30 rfl) rfl rfl rfl (fun ac F => ?_)
  refine stp F (f_loadN (vs := #[.int .i64 (((Ra 4).vs.getD 0 default).a 0), .int .i64 (((Ra 4).vs.getD 0 default).a 1), .int .i64 (((Ra 4).vs.getD 0 default).a 2), .int .i64 (((Ra 4).vs.getD 0 default).a 3), .int .i64 (((Ra 4).vs.getD 0 default).a 4), .int .i64 (((Ra 4).vs.getD 0 default).a 5)]) rfl Tryd.isAgg30 Tryd.sizeOf30 (rd_at (h4a.rd (i := 0) (by omega) rfl))) rfl rfl rfl (fun ac F => ?_)
  refine stp F (f_build (vs := [(0, .int .i64 1)]) (v := .agg #[.int .i64 1, .int .i64 0, .int .i64 0, .int .i64 0, .int .i64 0, .int .i64 0]) rfl (fun w => by kernel_rfl)) rfl rfl rfl (fun ac F => ?_)
  refine stp F (f_neVec (a := ((Ra 4).vs.getD 0 default).a) (b := (fun i => if i = 0 then 1 else 0)) rfl rfl) rfl rfl rfl (fun ac F => ?_)
  refine stp F (f_pickF rfl rfl) rfl rfl rfl (fun ac F => ?_)
  refine stpEnd ?_
  refine H16 _ _ ?_
  have hc : EqV ((Ra 4).vs.getD 0 default).a (fun i => if i = 0 then 1 else 0) := by intro i hi; rw [hva]; exact all0_at i hi
  replace F := F.setb (k := 39) (b' := false) rfl (nt (decide_eq_true hc))
  replace F := F.setb (k := 40) (b' := false) rfl (nt (decide_eq_true hc))
  refine c_false F rfl ?_
  refine wp_skip ?_
  refine H4 _ _ ?_
  refine c_seq (fun K17 H18 => ?_)
  refine c_region ?_
  refine stp F (f_move rfl) rfl rfl rfl (fun ac F => ?_)
  refine stpC F (f_call (P := Tryd.prog) (f := 6) (vs := [.slice A ps.length c]) rfl Tryd.call6) (play_c A c ps _ ((hls.keep kp0 (by simp)).more (Nat.zero_le _) (by omega)) hps hn (ok_take _) (htab.kp kp0)) rfl rfl rfl ?_
  rintro _ w19 ac ⟨gb, rfl, kq20, R, hv, hgb, hR⟩ F
  have hsz := (kq20).size
  replace hga := hga.keep (kq20) (by simp)
  replace h4a := h4a.keep (kq20) (by simp)
  replace kp0 := kp0.trans (kq20) (by simp)
  have hbase : w0.heap.size ≤ w13.heap.size := by omega
  have hV0 : Vs R = (playN ps).V := funext hv
  have hI : Inv ⟨(playN ps).sn, Vs R⟩ := by rw [hV0]; exact Inv.play ps
  have hI2 : Inv2 ⟨(playN ps).sn, Vs R⟩ := by rw [hV0]; exact Inv2.play ps
  have hC : (R 4).vs = ((playN ps).V 4) := hv 4
  have hCl := hI.ok.len
  simp only [Vs] at hCl
  have htm := rest_b turn 100 (by omega)
  refine stp F (f_move rfl) rfl rfl rfl (fun ac F => ?_)
  refine stp F (f_extract (vs := [.pointer (some ⟨gb, 0, none⟩), .bool true]) rfl rfl) rfl rfl rfl (fun ac F => ?_)
  refine stp F (f_extract (vs := [.pointer (some ⟨gb, 0, none⟩), .bool true]) rfl rfl) rfl rfl rfl (fun ac F => ?_)
  refine stp F (f_assign rfl) rfl rfl rfl (fun ac F => ?_)
  refine stp F (f_assign rfl) rfl rfl rfl (fun ac F => ?_)
  refine stpEnd ?_
  refine H18 _ _ ?_
  refine c_seq (fun K21 H22 => ?_)
  refine c_seq (fun K23 H24 => ?_)
  refine c_region ?_
  refine stp F (f_move rfl) rfl rfl rfl (fun ac F => ?_)
  refine stp F (f_not rfl) rfl rfl rfl (fun ac F => ?_)
  refine stp F (f_move rfl) rfl rfl rfl (fun ac F => ?_)
  refine stp F (f_move rfl) rfl rfl rfl (fun ac F => ?_)
  refine stp F (f_nilCheck rfl) rfl rfl rfl (fun ac F => ?_)
  refine stp F (f_fieldAddr (r := ⟨gb, 32, none⟩) (sz := 0) rfl Tryd.underlying36 rfl Tryd.sizeOf28 rfl) rfl rfl rfl (fun ac F => ?_)
  refine stp F (f_load1 (v := .slice ((R 4).A) ((R 4).vs.length) ((R 4).c)) rfl Tryd.isAgg28 ((hgb.cell _).trans rfl)) rfl rfl rfl (fun ac F => ?_)
  refine stp F (f_len rfl Tryd.underlying28) rfl rfl rfl (fun ac F => ?_)
  refine stp F (f_gtr rfl rfl) rfl rfl rfl (fun ac F => ?_)
  refine stp F (f_pickF rfl rfl) rfl rfl rfl (fun ac F => ?_)
  refine stpEnd ?_
  refine H24 _ _ ?_
  by_cases hc25 : 30 < (((R 4).vs.length : Nat) : Int)
  · have hc := hc25
    replace F := F.setb (k := 54) (b' := true) rfl (decide_eq_true hc)
    replace F := F.setb (k := 55) (b' := true) rfl (decide_eq_true hc)
    clear hc
    refine c_true F rfl ?_
    refine c_seq (fun K26 H27 => ?_)
    refine c_region ?_
    refine stp F (f_move rfl) rfl rfl rfl (fun ac F => ?_)
    refine stp F (f_not rfl) rfl rfl rfl (fun ac F => ?_)
    refine stp F (f_eqBool rfl rfl) rfl rfl rfl (fun ac F => ?_)
    refine stp F (f_move rfl) rfl rfl rfl (fun ac F => ?_)
    refine stp F (f_move rfl) rfl rfl rfl (fun ac F => ?_)
    refine stp F (f_nilCheck rfl) rfl rfl rfl (fun ac F => ?_)
    refine stp F (f_fieldAddr (r := ⟨gb, 32, none⟩) (sz := 0) rfl Tryd.underlying36 rfl Tryd.sizeOf28 rfl) rfl rfl rfl (fun ac F => ?_)
    refine stp F (f_load1 (v := .slice ((R 4).A) ((R 4).vs.length) ((R 4).c)) rfl Tryd.isAgg28 ((hgb.cell _).trans rfl)) rfl rfl rfl (fun ac F => ?_)
    refine stp F (f_len rfl Tryd.underlying28) rfl rfl rfl (fun ac F => ?_)
    refine stp F (f_gtr rfl rfl) rfl rfl rfl (fun ac F => ?_)
    replace F := F.setb (k := 65) (b' := true) rfl (decide_eq_true hc25)
    refine stp F (f_pickT rfl rfl) rfl rfl rfl (fun ac F => ?_)
    refine stp F (f_assign rfl) rfl rfl rfl (fun ac F => ?_)
    refine stpEnd ?_
    refine H27 _ _ ?_
    refine wp_ret ?_
    refine ret1 F rfl rfl ?_
    exact ⟨rfl, kp0⟩
  · have hc := hc25
    replace F := F.setb (k := 54) (b' := false) rfl (decide_eq_false hc)
    replace F := F.setb (k := 55) (b' := false) rfl (decide_eq_false hc)
    clear hc
    refine c_false F rfl ?_
    refine wp_skip ?_
    refine H22 _ _ ?_
    refine c_seq (fun K28 H29 => ?_)
    refine c_seq (fun K30 H31 => ?_)
    refine c_region ?_
    refine stp F (f_move rfl) rfl rfl rfl (fun ac F => ?_)
    refine stpEnd ?_
    refine H31 _ _ ?_
    refine wp_block ?_
    have h30 : ((playN ps).V 4).length ≤ 30 := by rw [← hC]; omega
    refine c_loop (fun mx ax wx => ∃ (p : Nat), ∃ (sn : Nat → Nat → Int), ∃ (R : Nat → Rw), Fr ax 138 [(1, .int .i64 turn), (7, .pointer (some ⟨gb, 0, none⟩)), (67, .int .i64 (p : Int))] ∧ Kp [] w0 wx ∧ Blk wx gb 36 (grpL idn sn R) ∧ Rows wx w13.heap.size gb R ∧ (p ≤ 4) ∧ (Inv ⟨sn, Vs R⟩) ∧ (Inv2 ⟨sn, Vs R⟩) ∧ ((R 4).vs = ((playN ps).V 4)) ∧ mx = 4 - p) (4 - 0) ?_ ?_
    · exact ⟨0, (playN ps).sn, R, F.sub ⟨rfl, rfl, rfl, trivial⟩, kp0, hgb, hR, by omega, hI, hI2, hC, rfl⟩
    · clear F kp0 hgb hR
      rintro m33 ac wl32 ⟨p, sn, R, F, kp0, hg, hR, hp, hI, hI2, hC, hm⟩
      have hsz := kp0.size
      have lt_hg := hg.lt
      refine c_seq (fun K34 H35 => ?_)
      refine c_region ?_
      refine stp F (f_lss rfl rfl) rfl rfl rfl (fun ac F => ?_)
      refine stpEnd ?_
      refine H35 _ _ ?_
      refine c_seq (fun K36 H37 => ?_)
      by_cases hc38 : (p : Int) < 4
      · have hc := hc38
        replace F := F.setb (k := 68) (b' := true) rfl (decide_eq_true hc)
        clear hc
        refine c_true F rfl ?_
        refine wp_skip ?_
        refine H37 _ _ ?_
        refine c_seq (fun K39 H40 => ?_)
        refine wp_block ?_
        refine c_seq (fun K41 H42 => ?_)
        refine c_region ?_
        refine stp F (f_move rfl) rfl rfl rfl (fun ac F => ?_)
        refine stp F (f_assign rfl) rfl rfl rfl (fun ac F => ?_)
        refine stpEnd ?_
        refine H42 _ _ ?_
        refine c_seq (fun K43 H44 => ?_)
        refine c_seq (fun K45 H46 => ?_)
        refine c_region ?_
        refine stp F (f_move rfl) rfl rfl rfl (fun ac F => ?_)
        refine stp F (f_nilCheck rfl) rfl rfl rfl (fun ac F => ?_)
        refine stp F (f_fieldAddr (r := ⟨gb, 32, none⟩) (sz := 0) rfl Tryd.underlying36 rfl Tryd.sizeOf28 rfl) rfl rfl rfl (fun ac F => ?_)
        refine stp F (f_load1 (v := .slice ((R 4).A) ((R 4).vs.length) ((R 4).c)) rfl Tryd.isAgg28 ((hg.cell _).trans rfl)) rfl rfl rfl (fun ac F => ?_)
        refine stp F (f_len rfl Tryd.underlying28) rfl rfl rfl (fun ac F => ?_)
        refine stp F (f_move rfl) rfl rfl rfl (fun ac F => ?_)
        refine stpEnd ?_
        refine H46 _ _ ?_
        refine wp_block ?_
        have hlC : (R 4).vs.length = ((playN ps).V 4).length := by rw [hC]
        rw [hlC] at F
        refine c_loop (fun mx ax wx => ∃ (i : Nat), ∃ (sn : Nat → Nat → Int), ∃ (R : Nat → Rw), Fr ax 138 [(1, .int .i64 turn), (7, .pointer (some ⟨gb, 0, none⟩)), (67, .int .i64 (p : Int)), (9, .int .i64 (p : Int)), (74, .int .i64 ((((playN ps).V 4).length : Nat) : Int)), (75, .int .i64 (i : Int))] ∧ Kp [] w0 wx ∧ Blk wx gb 36 (grpL idn sn R) ∧ Rows wx w13.heap.size gb R ∧ (i ≤ ((playN ps).V 4).length) ∧ (Inv ⟨sn, Vs R⟩) ∧ (Inv2 ⟨sn, Vs R⟩) ∧ ((R 4).vs = ((playN ps).V 4)) ∧ (∀ j, j < i → Dn ⟨sn, Vs R⟩ p (((playN ps).V 4).getD (roundK turn ((playN ps).V 4).length j) default)) ∧ mx = ((playN ps).V 4).length - i) (((playN ps).V 4).length - 0) ?_ ?_
        · exact ⟨0, sn, R, F.sub ⟨rfl, rfl, rfl, rfl, rfl, rfl, trivial⟩, kp0, hg, hR, by omega, hI, hI2, hC, fun j hj => by omega, rfl⟩
        · clear F kp0 hg hR
          rintro m48 ac wl47 ⟨i, sn, R, F, kp0, hg, hR, hi0, hI, hI2, hC, hDn, hm⟩
          have hsz := kp0.size
          have lt_hg := hg.lt
          refine c_seq (fun K49 H50 => ?_)
          refine c_region ?_
          refine stp F (f_lss rfl rfl) rfl rfl rfl (fun ac F => ?_)
          refine stpEnd ?_
          refine H50 _ _ ?_
          refine c_seq (fun K51 H52 => ?_)
          by_cases hc53 : (i : Int) < ((((playN ps).V 4).length : Nat) : Int)
          · have hc := hc53
            replace F := F.setb (k := 76) (b' := true) rfl (decide_eq_true hc)
            clear hc
            refine c_true F rfl ?_
            refine wp_skip ?_
            refine H52 _ _ ?_
            refine c_seq (fun K54 H55 => ?_)
            refine wp_block ?_
            refine c_seq (fun K56 H57 => ?_)
            refine c_region ?_
            refine stp F (f_move rfl) rfl rfl rfl (fun ac F => ?_)
            refine stp F (f_assign rfl) rfl rfl rfl (fun ac F => ?_)
            refine stpEnd ?_
            refine H57 _ _ ?_
            refine c_seq (fun K58 H59 => ?_)
            have hlC : (R 4).vs.length = ((playN ps).V 4).length := by rw [hC]
            have hCl := hI.ok.len
            simp only [Vs] at hCl
            refine c_region ?_
            refine stp F (f_move rfl) rfl rfl rfl (fun ac F => ?_)
            refine stp F (f_rem (r := turn.tmod 100) rfl rfl (by omega) rfl) rfl rfl rfl (fun ac F => ?_)
            refine stp F (f_move rfl) rfl rfl rfl (fun ac F => ?_)
            refine stp F (f_add (r := (turn.tmod 100) + (i : Int)) rfl rfl (by rw [IntKind.wrap_i64]; omega)) rfl rfl rfl (fun ac F => ?_)
            refine stp F (f_move rfl) rfl rfl rfl (fun ac F => ?_)
            refine stp F (f_nilCheck rfl) rfl rfl rfl (fun ac F => ?_)
            refine stp F (f_fieldAddr (r := ⟨gb, 32, none⟩) (sz := 0) rfl Tryd.underlying36 rfl Tryd.sizeOf28 rfl) rfl rfl rfl (fun ac F => ?_)
            refine stp F (f_load1 (v := .slice ((R 4).A) ((R 4).vs.length) ((R 4).c)) rfl Tryd.isAgg28 ((hg.cell _).trans rfl)) rfl rfl rfl (fun ac F => ?_)
            refine stp F (f_len rfl Tryd.underlying28) rfl rfl rfl (fun ac F => ?_)
            refine stpC F (f_call (P := Tryd.prog) (f := 7) (vs := [.int .i64 ((turn.tmod 100) + (i : Int)), .int .i64 (((R 4).vs.length : Nat) : Int)]) rfl Tryd.call7) (rest_c (turn.tmod 100 + (i : Int)) (R 4).vs.length _ (by omega) (by omega)) rfl rfl rfl ?_
            rintro _ w60 ac ⟨rfl, kq61⟩ F
            have hsz := (kq61).size
            replace hg := hg.keep (kq61) (by simp)
            replace hR := hR.nil (kq61)
            replace kp0 := kp0.trans (kq61) (by simp)
            refine stp F (f_assign rfl) rfl rfl rfl (fun ac F => ?_)
            refine stpEnd ?_
            obtain ⟨q, hqe, hqn, hql⟩ : ∃ q : Nat, restN (turn.tmod 100 + (i : Int)) ((R 4).vs.length : Int) = q ∧ (restN (turn.tmod 100 + (i : Int)) ((R 4).vs.length : Int)).toNat = q ∧ q < (R 4).vs.length := by have := restN_rng (turn.tmod 100 + (i : Int)) (n := ((R 4).vs.length : Int)) (by omega); exact ⟨(restN (turn.tmod 100 + (i : Int)) ((R 4).vs.length : Int)).toNat, by omega, rfl, by omega⟩
            rw [hqe] at F
            refine H59 _ _ ?_
            refine c_seq (fun K62 H63 => ?_)
            refine c_region ?_
            refine stp F (f_move rfl) rfl rfl rfl (fun ac F => ?_)
            refine stp F (f_move rfl) rfl rfl rfl (fun ac F => ?_)
            refine stp F (f_move rfl) rfl rfl rfl (fun ac F => ?_)
            refine stpC F (f_call (P := Tryd.prog) (f := 8) (vs := [.pointer (some ⟨gb, 0, none⟩), .int .i64 (p : Int), .int .i64 (q : Int)]) rfl Tryd.call8) (ghear_c w13.heap.size gb p q sn R _ hg hR (by omega) hql (hI.valid p (by omega)) (hI.cast _ (getD_in hql)).1 ⟨hI.bnd _ (getD_in hql), fun x hx => hI.bnd x (hI.hold p (by omega) x hx)⟩ ⟨by have := hI.ok.told p (by omega); simp only [Vs] at this; omega, by have := hearR_len p (sn p) (R p).vs ((R 4).vs.getD q default); have := (hI.valid p (by omega)).len; simp only [Vs] at this; omega⟩ (by omega)) rfl rfl rfl ?_
            rintro _ w64 ac ⟨R2, rfl, hg2, hR2, hvs, hkb⟩ F
            replace kp0 := hkb.kp kp0 hbase
            have hsz := kp0.size
            replace hR := hR2
            refine stp F (f_not rfl) rfl rfl rfl (fun ac F => ?_)
            refine stpEnd ?_
            refine H63 _ _ ?_
            refine c_false F rfl ?_
            refine wp_skip ?_
            refine H55 _ _ ?_
            refine c_region ?_
            refine stp F (f_add (r := ((i + 1 : Nat) : Int)) rfl rfl (by rw [IntKind.wrap_i64]; omega)) rfl rfl rfl (fun ac F => ?_)
            refine stp F (f_move rfl) rfl rfl rfl (fun ac F => ?_)
            refine stpEnd ?_
            have hgx := gm_ext rfl hvs
            have hG4 := (hear_keeps ⟨sn, Vs R⟩ (show p < 4 by omega) q).1
            have hI_ := hgx ▸ hI.hears (show p < 4 by omega) hql
            have hI2_ := hgx ▸ hI2.hears hI (show p < 4 by omega) hql
            have hC_ : (R2 4).vs = ((playN ps).V 4) := by rw [hvs 4, hG4]; exact hC
            have hdh := dn_hear hI (by show (R 4).vs.length ≤ 30; rw [hC]; exact h30) (show p < 4 by omega) hql
            have hD_ : ∀ j, j < i + 1 → Dn ⟨(hearG ⟨sn, Vs R⟩ p q).sn, Vs R2⟩ p (((playN ps).V 4).getD (roundK turn ((playN ps).V 4).length j) default) := by
              rw [hgx]
              refine upto_next (fun j hj => hdh.2 _ (hDn j hj)) ?_
              have h_ := hdh.1
              rw [show (⟨sn, Vs R⟩ : Gm).V 4 = ((playN ps).V 4) from hC] at h_
              rw [show roundK turn ((playN ps).V 4).length i = q from by rw [← hqn, hC]]
              exact h_
            refine ⟨((playN ps).V 4).length - (i + 1), ?_, (i + 1), (hearG ⟨sn, Vs R⟩ p q).sn, R2, F.sub ⟨rfl, rfl, rfl, rfl, rfl, rfl, trivial⟩, kp0, hg2, hR, by omega, hI_, hI2_, hC_, hD_, rfl⟩
            omega
          · have hc := hc53
            replace F := F.setb (k := 76) (b' := false) rfl (decide_eq_false hc)
            clear hc
            refine c_false F rfl ?_
            refine wp_exit ?_
            refine H44 _ _ ?_
            refine c_seq (fun K65 H66 => ?_)
            refine c_seq (fun K67 H68 => ?_)
            have hiC : i = ((playN ps).V 4).length := by omega
            have hDall : ∀ c ∈ (⟨sn, Vs R⟩ : Gm).V 4, Dn ⟨sn, Vs R⟩ p c := by
              intro c_ hc_
              have hc2 : c_ ∈ ((playN ps).V 4) := by rw [← hC]; exact hc_
              obtain ⟨j, hj, rfl⟩ := List.mem_iff_getElem.1 hc2
              obtain ⟨i2, hi2, hr2⟩ := round_all (turn.tmod 100) (show 0 < ((playN ps).V 4).length by omega) j hj
              have h_ := hDn i2 (by omega)
              rw [show roundK turn ((playN ps).V 4).length i2 = j from hr2] at h_
              simpa [hj] using h_
            obtain ⟨hA1, hA2, hA3⟩ := all_done hI hI2 (show p < 4 by omega) hDall
            simp only [Vs] at hA1 hA2 hA3
            have hlC : (R 4).vs.length = ((playN ps).V 4).length := by rw [hC]
            have hCl := hI.ok.len
            simp only [Vs] at hCl
            refine c_draw 24 (by rfl) (by decide +kernel) (fun wx => Kp [] wl47 wx) (Kp.drew _) ?_
            refine tP F rfl (fun wq => f_move rfl) rfl rfl rfl (fun ac F => ?_)
            refine tP F rfl (fun wq => f_move rfl) rfl rfl rfl (fun ac F => ?_)
            refine tP F rfl (fun wq => f_nilCheck rfl) rfl rfl rfl (fun ac F => ?_)
            refine tP F rfl (fun wq => f_fieldAddr (r := ⟨gb, 33, none⟩) (sz := 3) rfl Tryd.underlying36 rfl Tryd.sizeOf34 rfl) rfl rfl rfl (fun ac F => ?_)
            refine tP F rfl (fun wq => f_indexA (r := ⟨gb, 33 + p * 1, none⟩) rfl rfl Tryd.underlying34 Tryd.sizeOf28 (by omega) (by omega) (add_eq (by omega))) rfl rfl rfl (fun ac F => ?_)
            refine tQ F rfl (fun wq hq => f_load1 (v := .slice ((R (5 + p)).A) ((R (5 + p)).vs.length) ((R (5 + p)).c)) rfl Tryd.isAgg28 (((hg.keep hq (by simp)).cell _).trans (grp_told (p := p) (by omega) rfl))) rfl rfl rfl (fun ac F => ?_)
            refine tP F rfl (fun wq => f_len rfl Tryd.underlying28) rfl rfl rfl (fun ac F => ?_)
            refine tP F rfl (fun wq => f_move rfl) rfl rfl rfl (fun ac F => ?_)
            refine tP F rfl (fun wq => f_nilCheck rfl) rfl rfl rfl (fun ac F => ?_)
            refine tP F rfl (fun wq => f_fieldAddr (r := ⟨gb, 32, none⟩) (sz := 0) rfl Tryd.underlying36 rfl Tryd.sizeOf28 rfl) rfl rfl rfl (fun ac F => ?_)
            refine tQ F rfl (fun wq hq => f_load1 (v := .slice ((R 4).A) ((R 4).vs.length) ((R 4).c)) rfl Tryd.isAgg28 (((hg.keep hq (by simp)).cell _).trans rfl)) rfl rfl rfl (fun ac F => ?_)
            refine tP F rfl (fun wq => f_len rfl Tryd.underlying28) rfl rfl rfl (fun ac F => ?_)
            refine tP F rfl (fun wq => f_neq rfl rfl) rfl rfl rfl (fun ac F => ?_)
            refine tP F rfl (fun wq => f_move rfl) rfl rfl rfl (fun ac F => ?_)
            have hc : (((R (5 + p)).vs.length : Nat) : Int) = (((R 4).vs.length : Nat) : Int) := by omega
            replace F := F.setb (k := 106) (b' := false) rfl (nt (decide_eq_true hc))
            replace F := F.setb (k := 107) (b' := false) rfl (nt (decide_eq_true hc))
            refine tP F rfl (fun wq => f_move rfl) rfl rfl rfl (fun ac F => ?_)
            refine tP F rfl (fun wq => f_move rfl) rfl rfl rfl (fun ac F => ?_)
            refine tP F rfl (fun wq => f_nilCheck rfl) rfl rfl rfl (fun ac F => ?_)
            refine tP F rfl (fun wq => f_fieldAddr (r := ⟨gb, 0, none⟩) (sz := 31) rfl Tryd.underlying36 rfl Tryd.sizeOf33 rfl) rfl rfl rfl (fun ac F => ?_)
            refine tP F rfl (fun wq => f_indexA (r := ⟨gb, p * 8, none⟩) rfl rfl Tryd.underlying33 Tryd.sizeOf32 (by omega) (by omega) (add_eq (by omega))) rfl rfl rfl (fun ac F => ?_)
            refine tP F rfl (fun wq => f_fieldAddr (r := ⟨gb, p * 8 + 7, none⟩) (sz := 0) rfl Tryd.underlying32 rfl Tryd.sizeOf28 (add_mk _ _ _)) rfl rfl rfl (fun ac F => ?_)
            refine tQ F rfl (fun wq hq => f_load1 (v := .slice ((R p).A) ((R p).vs.length) ((R p).c)) rfl Tryd.isAgg28 (((hg.keep hq (by simp)).cell _).trans (grp_hold (p := p) (by omega) rfl))) rfl rfl rfl (fun ac F => ?_)
            refine tP F rfl (fun wq => f_len rfl Tryd.underlying28) rfl rfl rfl (fun ac F => ?_)
            refine tP F rfl (fun wq => f_neq rfl rfl) rfl rfl rfl (fun ac F => ?_)
            refine tP F rfl (fun wq => f_pickF rfl rfl) rfl rfl rfl (fun ac F => ?_)
            refine tEnd (fun w69 hq => ?_)
            have hsz := hq.size
            replace hg := hg.keep hq (by simp)
            replace hR := hR.nil hq
            replace kp0 := kp0.trans hq (by simp)
            refine H68 _ _ ?_
            have hc : (((R p).vs.length : Nat) : Int) = 0 := by rw [hA1]; rfl
            replace F := F.setb (k := 116) (b' := false) rfl (nt (decide_eq_true hc))
            replace F := F.setb (k := 117) (b' := false) rfl (nt (decide_eq_true hc))
            refine c_false F rfl ?_
            refine wp_skip ?_
            refine H66 _ _ ?_
            refine c_seq (fun K70 H71 => ?_)
            refine c_region ?_
            refine stp F (f_move rfl) rfl rfl rfl (fun ac F => ?_)
            refine stp F (f_nilCheck rfl) rfl rfl rfl (fun ac F => ?_)
            refine stp F (f_fieldAddr (r := ⟨gb, 32, none⟩) (sz := 0) rfl Tryd.underlying36 rfl Tryd.sizeOf28 rfl) rfl rfl rfl (fun ac F => ?_)
            refine stp F (f_load1 (v := .slice ((R 4).A) ((R 4).vs.length) ((R 4).c)) rfl Tryd.isAgg28 ((hg.cell _).trans rfl)) rfl rfl rfl (fun ac F => ?_)
            refine stp F (f_len rfl Tryd.underlying28) rfl rfl rfl (fun ac F => ?_)
            refine stp F (f_move rfl) rfl rfl rfl (fun ac F => ?_)
            refine stpEnd ?_
            refine H71 _ _ ?_
            refine wp_block ?_
            have hRl := hR.lt9
            refine c_loop (fun mx ax wx => ∃ (k : Nat), Fr ax 138 [(1, .int .i64 turn), (7, .pointer (some ⟨gb, 0, none⟩)), (67, .int .i64 (p : Int)), (9, .int .i64 (p : Int)), (121, .slice ((R 4).A) ((R 4).vs.length) ((R 4).c)), (122, .int .i64 (((R 4).vs.length : Nat) : Int)), (123, .int .i64 (k : Int))] ∧ Kp [] w0 wx ∧ Blk wx gb 36 (grpL idn sn R) ∧ Rows wx w13.heap.size gb R ∧ (k ≤ (R 4).vs.length) ∧ mx = (R 4).vs.length - k) ((R 4).vs.length - 0) ?_ ?_
            · exact ⟨0, F.sub ⟨rfl, rfl, rfl, rfl, rfl, rfl, rfl, trivial⟩, kp0, hg, hR, by omega, rfl⟩
            · clear F kp0 hg hR
              rintro m73 ac wl72 ⟨k, F, kp0, hg, hR, hk, hm⟩
              have hsz := kp0.size
              have lt_hg := hg.lt
              have hRl := hR.lt9
              refine c_seq (fun K74 H75 => ?_)
              refine c_region ?_
              refine stp F (f_lss rfl rfl) rfl rfl rfl (fun ac F => ?_)
              refine stpEnd ?_
              refine H75 _ _ ?_
              refine c_seq (fun K76 H77 => ?_)
              by_cases hc78 : (k : Int) < (((R 4).vs.length : Nat) : Int)
              · have hc := hc78
                replace F := F.setb (k := 124) (b' := true) rfl (decide_eq_true hc)
                clear hc
                refine c_true F rfl ?_
                refine wp_skip ?_
                refine H77 _ _ ?_
                refine c_seq (fun K79 H80 => ?_)
                refine wp_block ?_
                refine c_seq (fun K81 H82 => ?_)
                have hkk : k < (R 4).vs.length := by omega
                have hrow := (hR.own 4 (by omega)).msl
                refine c_region ?_
                refine stp F (f_indexS (r := ((adr ((R 4).A)).add (k * 8))) rfl rfl Tryd.underlying28 Tryd.sizeOf38 (by omega) (by omega) (hrow.some_ (by omega)).1 (by rw [show Int.toNat (k : Int) = k from by omega])) rfl rfl rfl (fun ac F => ?_)
                refine stp F (f_loadN rfl Tryd.isAgg38 Tryd.sizeOf38 (hrow.rd (i := k) (by omega) rfl)) rfl rfl rfl (fun ac F => ?_)
                refine stpE F (f_alloc (cs := [.int .i64 0, .int .i64 0, .int .i64 0, .int .i64 0, .int .i64 0, .int .i64 0, .int .i64 0, .string ByteArray.empty]) Tryd.zeroValue38 rfl) rfl rfl rfl ?_
                rintro _ w84 ac ⟨g83, rfl, nb86⟩ F
                have n87 := nb86.num
                have z88 := nb86.size
                have hsz := (nb86.kp).size
                replace hg := hg.keep (nb86.kp) (by simp)
                replace hR := hR.nil (nb86.kp)
                replace hrow := hrow.keep (nb86.kp) (by simp)
                replace kp0 := kp0.trans (nb86.kp) (by simp)
                have hb85 : Blk w84 g83 38 ([.int .i64 0, .int .i64 0, .int .i64 0, .int .i64 0, .int .i64 0, .int .i64 0, .int .i64 0, .string ByteArray.empty]) := nb86.blk
                refine stpW F (f_store (v := .agg #[.int .i64 (((R 4).vs.getD k default).f), .int .i64 (((R 4).vs.getD k default).a 0), .int .i64 (((R 4).vs.getD k default).a 1), .int .i64 (((R 4).vs.getD k default).a 2), .int .i64 (((R 4).vs.getD k default).a 3), .int .i64 (((R 4).vs.getD k default).a 4), .int .i64 (((R 4).vs.getD k default).a 5), .string (((R 4).vs.getD k default).t)]) (vs := [.int .i64 (((R 4).vs.getD k default).f), .int .i64 (((R 4).vs.getD k default).a 0), .int .i64 (((R 4).vs.getD k default).a 1), .int .i64 (((R 4).vs.getD k default).a 2), .int .i64 (((R 4).vs.getD k default).a 3), .int .i64 (((R 4).vs.getD k default).a 4), .int .i64 (((R 4).vs.getD k default).a 5), .string (((R 4).vs.getD k default).t)]) rfl rfl hb85 Tryd.sizeOf38 rfl rfl (by simp) (by simp [plainV])) rfl rfl ?_
                rintro w89 ac wr90 F
                have z91 := wr90.size
                have hsz := (wr90.kp).size
                replace hg := hg.keep (wr90.kp) (by have := hg.lt; simp; omega)
                replace hR := hR.keep (wr90.kp) (by intro r hr x hx hm; have h1 := hRl r hr x hx; simp at hm; omega)
                replace hrow := hrow.keep (wr90.kp) (by intro x hx; simp at hx; omega)
                replace kp0 := kp0.trans (wr90.kp) (by intro x hx hl; simp at hx; omega)
                replace hb85 : Blk w89 g83 38 ([.int .i64 (((R 4).vs.getD k default).f), .int .i64 (((R 4).vs.getD k default).a 0), .int .i64 (((R 4).vs.getD k default).a 1), .int .i64 (((R 4).vs.getD k default).a 2), .int .i64 (((R 4).vs.getD k default).a 3), .int .i64 (((R 4).vs.getD k default).a 4), .int .i64 (((R 4).vs.getD k default).a 5), .string (((R 4).vs.getD k default).t)]) := wr90.blk
                refine stpEnd ?_
                have h5 := (hR.own (5 + p) (by omega)).msl
                refine H82 _ _ ?_
                refine c_seq (fun K92 H93 => ?_)
                refine c_draw 9 (by rfl) (by decide +kernel) (fun wx => Kp [] w89 wx) (Kp.drew _) ?_
                refine tP F rfl (fun wq => f_move rfl) rfl rfl rfl (fun ac F => ?_)
                refine tP F rfl (fun wq => f_move rfl) rfl rfl rfl (fun ac F => ?_)
                refine tP F rfl (fun wq => f_nilCheck rfl) rfl rfl rfl (fun ac F => ?_)
                refine tP F rfl (fun wq => f_fieldAddr (r := ⟨gb, 33, none⟩) (sz := 3) rfl Tryd.underlying36 rfl Tryd.sizeOf34 rfl) rfl rfl rfl (fun ac F => ?_)
                refine tP F rfl (fun wq => f_indexA (r := ⟨gb, 33 + p * 1, none⟩) rfl rfl Tryd.underlying34 Tryd.sizeOf28 (by omega) (by omega) (add_eq (by omega))) rfl rfl rfl (fun ac F => ?_)
                refine tQ F rfl (fun wq hq => f_load1 (v := .slice ((R (5 + p)).A) ((R (5 + p)).vs.length) ((R (5 + p)).c)) rfl Tryd.isAgg28 (((hg.keep hq (by simp)).cell _).trans (grp_told (p := p) (by omega) rfl))) rfl rfl rfl (fun ac F => ?_)
                refine tQ F rfl (fun wq hq => f_loadN rfl Tryd.isAgg38 Tryd.sizeOf38 (hb85.keep hq (by simp)).rdAll) rfl rfl rfl (fun ac F => ?_)
                refine tC F rfl (fun wq => f_call (P := Tryd.prog) (f := 9) (vs := [.slice ((R (5 + p)).A) ((R (5 + p)).vs.length) ((R (5 + p)).c), .agg #[.int .i64 (((R 4).vs.getD k default).f), .int .i64 (((R 4).vs.getD k default).a 0), .int .i64 (((R 4).vs.getD k default).a 1), .int .i64 (((R 4).vs.getD k default).a 2), .int .i64 (((R 4).vs.getD k default).a 3), .int .i64 (((R 4).vs.getD k default).a 4), .int .i64 (((R 4).vs.getD k default).a 5), .string (((R 4).vs.getD k default).t)]]) rfl Tryd.call9) (fun wq hq => (has_c (R (5 + p)).A (R (5 + p)).c _ _ (R (5 + p)).vs ((R 4).vs.getD k default) wq (h5.keep hq (by simp)) (by omega) (ex_getD.2 ⟨_, hA3 _ (getD_in hkk), EqM.refl _⟩)).mono fun e w h => by cases e <;> first | exact ⟨h.1, hq.trans h.2 (by simp)⟩ | exact h.elim) rfl rfl rfl (fun ac F => ?_)
                refine tP F rfl (fun wq => f_not rfl) rfl rfl rfl (fun ac F => ?_)
                refine tEnd (fun w94 hq => ?_)
                have hsz := hq.size
                replace hg := hg.keep hq (by simp)
                replace hR := hR.nil hq
                replace hb85 := hb85.keep hq (by simp)
                replace h5 := h5.keep hq (by simp)
                replace kp0 := kp0.trans hq (by simp)
                skip
                refine H93 _ _ ?_
                refine c_false F rfl ?_
                refine wp_skip ?_
                refine H80 _ _ ?_
                refine c_region ?_
                refine stp F (f_add (r := ((k + 1 : Nat) : Int)) rfl rfl (by rw [IntKind.wrap_i64]; omega)) rfl rfl rfl (fun ac F => ?_)
                refine stp F (f_move rfl) rfl rfl rfl (fun ac F => ?_)
                refine stpEnd ?_
                refine ⟨(R 4).vs.length - (k + 1), ?_, (k + 1), F.sub ⟨rfl, rfl, rfl, rfl, rfl, rfl, rfl, trivial⟩, kp0, hg, hR, by omega, rfl⟩
                omega
              · have hc := hc78
                replace F := F.setb (k := 124) (b' := false) rfl (decide_eq_false hc)
                clear hc
                refine c_false F rfl ?_
                refine wp_exit ?_
                refine H40 _ _ ?_
                refine c_region ?_
                refine stp F (f_add (r := ((p + 1 : Nat) : Int)) rfl rfl (by rw [IntKind.wrap_i64]; omega)) rfl rfl rfl (fun ac F => ?_)
                refine stp F (f_move rfl) rfl rfl rfl (fun ac F => ?_)
                refine stpEnd ?_
                refine ⟨4 - (p + 1), ?_, (p + 1), sn, R, F.sub ⟨rfl, rfl, rfl, trivial⟩, kp0, hg, hR, by omega, hI, hI2, hC, rfl⟩
                omega
      · have hc := hc38
        replace F := F.setb (k := 68) (b' := false) rfl (decide_eq_false hc)
        clear hc
        refine c_false F rfl ?_
        refine wp_exit ?_
        refine H29 _ _ ?_
        refine c_seq (fun K95 H96 => ?_)
        refine c_region ?_
        refine stp F (f_assign rfl) rfl rfl rfl (fun ac F => ?_)
        refine stpEnd ?_
        refine H96 _ _ ?_
        refine wp_ret ?_
        refine ret1 F rfl rfl ?_
        exact ⟨rfl, kp0⟩

end Go.Proofs.YtkbngaollbmcbaaDoor.KK

namespace Go.Proofs.YtkbngaollbmcbaaDoor.KK
open Go Go.RowKit
open Go.ChangeShapes Go.WideShapes Go.ChangeAt Go.Deep
open Go.Proofs.YtkbngaollbmcbaaDoor

section
variable {H : Type} {enc : TypeId × Value → H} {P : Program} {w : World} {base : Nat} {spare : Nat → Bool} {held : Bool}
theorem pick_list {α : Type} [Inhabited α] {q : Nat → α → Prop} (n : Nat) (h : ∀ i, i < n → ∃ x, q i x) : ∃ l : List α, l.length = n ∧ ∀ i, i < n → q i (l.getD i default) := by
  refine ⟨(List.range n).map fun i => if h' : i < n then Classical.choose (h i h') else default, by simp, fun i hi => ?_⟩
  have := Classical.choose_spec (h i hi)
  simpa [hi] using this
theorem wf_i64 {z : Int} (h : (Lit.int .i64 z).wf = true) : i64 z := by
  simp only [Lit.wf, Bool.and_eq_true, decide_eq_true_eq] at h
  exact h
/-- A slice of posts that came in. -/
theorem open_posts {t e : TypeId} {f0 f1 f2 : Field} {fuel : Nat} {cs : List Value} {x : DataW H × List MemPlace} (ht : P.underlying t = some (.slice e)) (he : P.underlying e = some (.struct #[f0, f1, f2]))
    (hone : oneCellFields P #[f0, f1, f2] = true) (hC : P.cellsOf e = 3) (h0 : P.underlying f0.type = some (.int .i64)) (h1 : P.underlying f1.type = some (.int .i64)) (h2 : P.underlying f2.type = some (.int .i64)) (h : DataW.trod enc P w base spare held fuel t cs = some x) :
    ∃ (A : Option Addr) (c : Nat) (l : List Pst), cs = [.slice A l.length c] ∧ Sl w 0 w.heap.size 3 A l.length c (fun i => psV (l.getD i default)) ∧ (∀ x ∈ l, x.ok) ∧ l.length ≤ 9223372036854775807 := by
  rcases open_slice ht h with ⟨rfl, _⟩ | ⟨a, len, cap, m, n, D, Pl, rfl, hb, hl, hm, hmm, _, hi⟩
  · exact ⟨none, 0, [], rfl, Sl.nil _ _ _ _ _, by simp, by simp⟩
  · have key : ∀ i, i < len → ∃ e : Pst, RdAt w (a.add (i * 3)) 3 (psV e) ∧ e.ok := fun i hil => by
      have him : i < m := by rw [hmm]; split <;> omega
      obtain ⟨cs', hc, ht'⟩ := hi i him
      rw [hC] at hc
      obtain ⟨_, hlen, hcell⟩ := World.cells?_some hc
      obtain ⟨ys, k, _, _, _, hys, hf⟩ := DataW.trod_struct he ht'
      obtain ⟨c0, c1, c2, rfl⟩ : ∃ c0 c1 c2, cs' = [c0, c1, c2] := by
        match cs', hlen with
        | [c0, c1, c2], _ => exact ⟨c0, c1, c2, rfl⟩
      have g : ∀ (j : Nat) (f : Field) (c : Value), #[f0, f1, f2][j]? = some f → ([c0, c1, c2].drop j).take 1 = [c] → P.underlying f.type = some (.int .i64) → ∃ z, c = .int .i64 z ∧ i64 z := fun j f c hj hd hu => by
        obtain ⟨ho, hk⟩ := hone_of hone j f hj
        have h3 := hf j f hj
        rw [ho, hk, hd] at h3
        have hlt : j < ys.length := by rw [hys]; exact (Array.getElem?_eq_some_iff.1 hj).1
        rw [List.getElem?_eq_getElem hlt] at h3
        obtain ⟨z, hz, _, hw⟩ := DataW.trod_int hu h3
        simp at hz
        exact ⟨z, hz, wf_i64 hw⟩
      obtain ⟨z0, rfl, b0⟩ := g 0 f0 c0 rfl rfl h0
      obtain ⟨z1, rfl, b1⟩ := g 1 f1 c1 rfl rfl h1
      obtain ⟨z2, rfl, b2⟩ := g 2 f2 c2 rfl rfl h2
      refine ⟨⟨z0, z1, z2⟩, ⟨rfl, fun j u hu => ?_⟩, b0, b1, b2⟩
      have hu' : [Value.int .i64 z0, .int .i64 z1, .int .i64 z2][j]? = some u := by
        have : (#[Value.int .i64 z0, .int .i64 z1, .int .i64 z2] : Array Value)[j]? = some u := hu
        simpa using this
      have hj : j < 3 := (List.getElem?_eq_some_iff.1 hu').1
      rw [hcell j hj]; exact hu'
    obtain ⟨l, hll, hrd⟩ := pick_list len key
    refine ⟨some a, cap, l, by rw [hll], ⟨by omega, fun hp => ?_, fun i hi' => by rw [hll] at hi'; exact (hrd i hi').1⟩, fun x hx => ?_, by rw [hll]; unfold maxLen at hm; omega⟩
    · rw [hll] at hp
      refine ⟨rfl, Nat.zero_le _, ?_⟩
      have := (hrd 0 hp).1.2 0 (.int .i64 (l.getD 0 default).kind) rfl
      have hlt := World.block_lt_of_cell? w _ this
      rwa [KK.add_block, KK.add_block] at hlt
    · obtain ⟨i, hi2, rfl⟩ := List.mem_iff_getElem.1 hx
      have := (hrd i (by omega)).2
      simpa [hi2] using this
end
theorem own1 : ownKnob Tryd.prog.godebug = none := by kernel_rfl
theorem laidOut1 : laidOutB Tryd.prog = true := by kernel_rfl
/-- What the rows list. -/
abbrev laid3 : List (String × DataW Unit) := [("math/bits.deBruijn32tab", Rows.laid_math_bits_deBruijn32tab), ("math/bits.deBruijn64tab", Rows.laid_math_bits_deBruijn64tab), ("internal/strconv.uint64pow10", Rows.laid_internal_strconv_uint64pow10)]
theorem door_met (os : Os) (args : Array Value) : laidMetH Tryd.prog laid3 ((World.doorLaid Tryd.prog 400 os).forCall (fun _ _ => 0) ⟨#[], args, []⟩).memory :=
  laidMetH_of_parts3 (fuel := 8) (laidMet_of_run' 8 (by kernel_rfl) (by kernel_rfl)) (by kernel_rfl) (by kernel_rfl)
theorem tab_of_laid {W : World} (h : laidMetH Tryd.prog laid3 W) : Tab Tryd.prog W := by
  rw [MakeChecks.laidMetH_plain _ _ _ (by kernel_rfl)] at h
  obtain ⟨ps, ⟨g0, t0, cs0, f0, p0, q0, hg0, ht0, hv0, hd0, ⟨g1, t1, cs1, f1, p1, q1, hg1, ht1, hv1, hd1, ⟨g2, t2, cs2, f2, p2, q2, hg2, ht2, hv2, hd2, _, _⟩, _⟩, _⟩, _, _⟩ := h
  obtain rfl := Option.some.inj ((show Tryd.prog.globalNamed "internal/strconv.uint64pow10" = some 0 by kernel_rfl).symm.trans hg2)
  obtain rfl := Option.some.inj ((show (Tryd.prog.globals[0]?).map (·.type) = some 79 by kernel_rfl).symm.trans ht2)
  show W.var? _ _ = _
  rw [hv2]
  have := Lib.cells_of_tab (k := .u64) (zs := Lib.pow10Tab) (n := 20) (e := 71) Tryd.underlying79 Tryd.underlying71 (by kernel_rfl) (by kernel_rfl) hd2
  rw [← this]

end Go.Proofs.YtkbngaollbmcbaaDoor.KK

namespace Go.Proofs.YtkbngaollbmcbaaDoor.KK
open Go Go.RowKit
open Go.ChangeShapes Go.WideShapes Go.ChangeAt Go.Deep
open Go.Proofs.YtkbngaollbmcbaaDoor

set_option maxRecDepth 100000 in
theorem allLifted (os : Os) (started : os.Started) (H : Type) (enc : TypeId × Value → H) :
    ReturnsInHanded {} Tryd.checked os 4 .any (fun w args => (Rows.causalAllSpec.pre enc Tryd.prog Tryd.f4 [] false w args ∧ laidMetH Tryd.prog laid3 w) ∧ sizedMet enc Tryd.prog Tryd.f4 (OpenSpec.ofChange Rows.causalAllSpec) false w args)
      (Rows.causalAllSpec.post enc Tryd.prog Tryd.f4 false true false false) := by
  refine returnsInHanded_of_change_and (C := Tryd.checked) (X := fun w _ => laidMetH Tryd.prog laid3 w) (fun _ _ _ hh h => h.of_heap hh) own1 started (by kernel_rfl) Tryd.func4
    (ChangeSpec.witness_shaped (enc := enc) (C := Tryd.checked) (os := os) (X := fun w _ => laidMetH Tryd.prog laid3 w) false (World.doorLaid Tryd.prog 400 os) #[.slice none 0 0, .int .i64 0] 8 rfl (World.shaped_of_RefB (by kernel_rfl) (by kernel_rfl)) (by kernel_rfl) (by kernel_rfl) (by kernel_rfl) (door_met os _)) ?_
  intro W base args ds gs before hval0 hW _ _ hL _
  have hval : ∀ (j : Nat) t v, Tryd.f4.params[j]? = some t → args[j]? = some v → Value.okWide Tryd.prog W .any base t v := hval0
  have hW' := hW
  obtain ⟨p, q, hA0, hV, rfl, hfz, hnd⟩ := hW
  have hA : DataW.TrodAll enc Tryd.prog W 0 (fun _ => true) true Tryd.f4.params.toList args.toList ds p := hA0
  rw [Tryd.params4] at hA hval
  obtain ⟨v0, vs0, d0, ds0, p0, q0, hargs, rfl, rfl, h0, r0⟩ := trodAll_cons hA
  obtain ⟨v1, vs1, d1, ds1, p1, q1, hargs1, rfl, rfl, h1, r1⟩ := trodAll_cons r0
  obtain ⟨rfl, rfl, rfl⟩ := trodAll_nil r1
  subst hargs1
  obtain rfl : args = #[v0, v1] := by cases args; simp_all
  obtain ⟨turn, rfl, rfl, rfl, hwn⟩ := open_int Tryd.underlying3 (hval 1 3 v1 rfl rfl) h1
  obtain ⟨rfl, rfl⟩ := trodVars_none hV
  obtain ⟨a0, len0, cap0, rfl⟩ := okWide_slice Tryd.underlying22 (hval 0 22 v0 rfl rfl)
  have k0 := h0
  have lt0 : ∀ x ∈ p0, x.block < W.heap.size := by obtain ⟨m, hm⟩ := k0; exact DataW.trod_lt m _ _ _ hm
  obtain ⟨fuel, hf⟩ := h0
  obtain ⟨A, c, l, hcs, hsl, hok, hlen⟩ := open_posts Tryd.underlying22 Tryd.underlying27 (by kernel_rfl) (by kernel_rfl) Tryd.underlying3 Tryd.underlying3 Tryd.underlying3 hf
  simp [Value.cells] at hcs
  obtain ⟨rfl, rfl, rfl⟩ := hcs
  clear hA0 hval0
  refine (all_c a0 cap0 l turn W hsl hok hlen (tab_of_laid hL)).mono fun e W' he => ?_
  cases e with
  | panicked c => exact he.elim
  | outgrown => exact he.elim
  | returned v =>
    obtain ⟨rfl, kp⟩ := he
    have bel := kp.below
    exact ⟨_, rfl, _, _, _, [], _, [], hW', trodAll_mk1 (shut_bool Tryd.underlying4 _), (trodAll_cons_mk (Below.trod laidOut1 (by kernel_rfl) (of_decide_eq_true (by kernel_rfl)) k0 bel lt0) (trodAll_mk1 (shut_int Tryd.underlying3 hwn))), rfl, bel.frame _, fun h => by cases h⟩

theorem all_row : Rows.CausalAllSaid :=
  OpenClaim.holds_of_wide 4 Tryd.f4 rfl rfl rfl rfl rfl rfl rfl ⟨rfl, rfl, rfl, rfl, rfl⟩ rfl rfl rfl rfl rfl (by kernel_rfl) Tryd.func4 (by kernel_rfl)
    (of_decide_eq_true (by kernel_rfl)) (by unfold Func.isWrapper; first | (rw [if_pos (by decide +kernel)]; kernel_rfl) | (rw [if_neg (by decide +kernel)]; exact ⟨rfl, rfl⟩))
    (fun os started H enc _ => allLifted os started H enc)
theorem causalAll_holds : Rows.CausalAllCardSaid :=
  Claim7.holds_tied_plain_at .later [] [.data, .data, .data] true (true, "14b0026c41719434ed4ac978c33fc0fc6010f237949abf9a9ad0e60fd5291d1c") false
    all_row (fun _ h => by cases h) (by kernel_rfl) (fun _ h => by cases h) causalAll_row_tie rfl ⟨rfl, rfl⟩ (by kernel_rfl) rfl
    (fun f fn hf hfn => by
      obtain rfl : f = 4 := Option.some.inj ((show Tryd.prog.funcNamed "partsong/partkeep.CausalAll" = some 4 by kernel_rfl).symm.trans hf) |>.symm
      obtain rfl : fn = Tryd.f4 := (Option.some.inj (Tryd.func4.symm.trans hfn)).symm
      exact ⟨by kernel_rfl, fun j t ht => by
        rw [Tryd.params4] at ht
        have hm : t ∈ [22, 3] := by simpa using Array.mem_of_getElem? ht
        have hall : ([22, 3].all fun u => !Tryd.prog.wantsStandIn u) = true := by kernel_rfl
        exact (show Tryd.prog.wantsStandIn t = false by simpa using List.all_eq_true.1 hall t hm)⟩)
    (by kernel_rfl)
end Go.Proofs.YtkbngaollbmcbaaDoor.KK
