/- The tied card of CausalLine is proved: of one sender everyone is told a beginning of what it cast, in its order. The card's own condition: the three listed tables are laid as the program's text lays them. -/
import Derived.Test.YtkbngaollbmcbaaDoorPl
import Derived.Test.YtkbngaollbmcbaaDoorRows
import Derived.Test.YtkbngaollbmcbaaDoorCards
import Derived.Test.YtkbngaollbmcbaaDoorTie
import Derived.WalkKit
import Derived.ProofKit
import Derived.OpenShut
import Derived.ChangeOld
import Derived.Carry
import Derived.Below
import Derived.Deep.Slices
import Derived.Deep.Fields
import Derived.LaidMore
import Derived.SevenTiedAt
import Derived.Stop.Joined

namespace Go.Proofs.YtkbngaollbmcbaaDoor.KK
open Go Go.RowKit

set_option maxHeartbeats 4000000 in
theorem line_c (A : Option Addr) (c : Nat) (ps : List Pst) (w0 : World) (hl0 : Sl w0 0 w0.heap.size 3 A ps.length c (fun i => psV (ps.getD i default))) (hps : ∀ x ∈ ps, Pst.ok x) (hn : ps.length ≤ 9223372036854775807) (htab : Tab Tryd.prog w0) : Calls Tryd.prog 3 #[.slice A ps.length c] w0 (Ret fun v w' => v = .bool true ∧ Kp [] w0 w') := by
  refine enter (n := 91) Tryd.func3 rfl rfl rfl (fun ac F => ?_)
  have kp0 := Kp.refl ([] : List Nat) w0
  have hls := hl0
  refine c_seq (fun K1 H2 => ?_)
  refine c_region ?_
  refine stp F (f_assign rfl) rfl rfl rfl (fun ac F => ?_)
  refine stpEnd ?_
  refine H2 _ _ ?_
  refine c_seq (fun K3 H4 => ?_)
  refine c_seq (fun K5 H6 => ?_)
  refine c_region ?_
  refine stp F (f_build (vs := []) (v := .agg #[.int .i64 0, .int .i64 0, .int .i64 0]) rfl (fun w => by kernel_rfl)) rfl rfl rfl (fun ac F => ?_)
  refine stp F (f_build (vs := []) (v := .agg #[.int .i64 0, .int .i64 0, .int .i64 0]) rfl (fun w => by kernel_rfl)) rfl rfl rfl (fun ac F => ?_)
  refine stp F (f_build (vs := [(0, .int .i64 1), (1, .int .i64 1), (2, .int .i64 1)]) (v := .agg #[.int .i64 1, .int .i64 1, .int .i64 1]) rfl (fun w => by kernel_rfl)) rfl rfl rfl (fun ac F => ?_)
  refine stpE F (f_buildSlice (el := 27) (vs := [(0, .agg #[.int .i64 0, .int .i64 0, .int .i64 0]), (1, .agg #[.int .i64 0, .int .i64 0, .int .i64 0]), (2, .agg #[.int .i64 1, .int .i64 1, .int .i64 1])]) (cs := [.int .i64 0, .int .i64 0, .int .i64 0, .int .i64 0, .int .i64 0, .int .i64 0, .int .i64 1, .int .i64 1, .int .i64 1]) rfl (fun w => by kernel_rfl)) rfl rfl rfl ?_
  rintro _ w8 ac ⟨g7, rfl, nb9⟩ F
  have n11 := nb9.num
  have z12 := nb9.size
  have hsz := (nb9.kp).size
  replace hl0 := hl0.keep (nb9.kp) (by simp)
  replace kp0 := kp0.trans (nb9.kp) (by simp)
  have hb10 : Blk w8 g7 27 ([.int .i64 0, .int .i64 0, .int .i64 0, .int .i64 0, .int .i64 0, .int .i64 0, .int .i64 1, .int .i64 1, .int .i64 1]) := nb9.blk
  refine stpC F (f_call (P := Tryd.prog) (f := 6) (vs := [.slice (some ⟨g7, 0, none⟩) 3 3]) rfl Tryd.call6) (play_c (some ⟨g7, 0, none⟩) 3 line0 _ (ps_sl hb10 rfl (by decide)) (by decide +kernel) (by decide) (ok_take _) (htab.kp kp0)) rfl rfl rfl ?_
  rintro _ w13 ac ⟨ga, rfl, kq14, Ra, hva, hga, hRa⟩ F
  have hsz := (kq14).size
  replace hl0 := hl0.keep (kq14) (by simp)
  replace hb10 := hb10.keep (kq14) (by simp)
  replace kp0 := kp0.trans (kq14) (by simp)
  refine stp F (f_move rfl) rfl rfl rfl (fun ac F => ?_)
  refine stp F (f_extract (vs := [.pointer (some ⟨ga, 0, none⟩), .bool true]) rfl rfl) rfl rfl rfl (fun ac F => ?_)
  refine stp F (f_extract (vs := [.pointer (some ⟨ga, 0, none⟩), .bool true]) rfl rfl) rfl rfl rfl (fun ac F => ?_)
  refine stp F (f_assign rfl) rfl rfl rfl (fun ac F => ?_)
  refine stp F (f_assign rfl) rfl rfl rfl (fun ac F => ?_)
  refine stpEnd ?_
  refine H6 _ _ ?_
  refine c_seq (fun K15 H16 => ?_)
  refine c_region ?_
  refine stp F (f_move rfl) rfl rfl rfl (fun ac F => ?_)
  refine stp F (f_not rfl) rfl rfl rfl (fun ac F => ?_)
  refine stp F (f_move rfl) rfl rfl rfl (fun ac F => ?_)
  refine stp F (f_move rfl) rfl rfl rfl (fun ac F => ?_)
  refine stp F (f_nilCheck rfl) rfl rfl rfl (fun ac F => ?_)
  refine stp F (f_fieldAddr (r := ⟨ga, 33, none⟩) (sz := 3) rfl Tryd.underlying36 rfl Tryd.sizeOf34 rfl) rfl rfl rfl (fun ac F => ?_)
  refine stp F (f_indexA (r := ⟨ga, 34, none⟩) rfl rfl Tryd.underlying34 Tryd.sizeOf28 (by omega) (by omega) rfl) rfl rfl rfl (fun ac F => ?_)
  refine stp F (f_load1 (v := .slice ((Ra 6).A) ((Ra 6).vs.length) ((Ra 6).c)) rfl Tryd.isAgg28 ((hga.cell _).trans rfl)) rfl rfl rfl (fun ac F => ?_)
  refine stp F (f_len rfl Tryd.underlying28) rfl rfl rfl (fun ac F => ?_)
  refine stp F (f_neq rfl rfl) rfl rfl rfl (fun ac F => ?_)
  refine stp F (f_pickF rfl rfl) rfl rfl rfl (fun ac F => ?_)
  refine stp F (f_move rfl) rfl rfl rfl (fun ac F => ?_)
  have hc : (((Ra 6).vs.length : Nat) : Int) = 0 := by rw [hva, line0_told]; rfl
  replace F := F.setb (k := 29) (b' := false) rfl (nt (decide_eq_true hc))
  replace F := F.setb (k := 30) (b' := false) rfl (nt (decide_eq_true hc))
  replace F := F.setb (k := 31) (b' := false) rfl (nt (decide_eq_true hc))
  refine stp F (f_move rfl) rfl rfl rfl (fun ac F => ?_)
  refine stp F (f_nilCheck rfl) rfl rfl rfl (fun ac F => ?_)
  refine stp F (f_fieldAddr (r := ⟨ga, 0, none⟩) (sz := 31) rfl Tryd.underlying36 rfl Tryd.sizeOf33 rfl) rfl rfl rfl (fun ac F => ?_)
  refine stp F (f_indexA (r := ⟨ga, 8, none⟩) rfl rfl Tryd.underlying33 Tryd.sizeOf32 (by omega) (by omega) rfl) rfl rfl rfl (fun ac F => ?_)
  refine stp F (f_fieldAddr (r := ⟨ga, 15, none⟩) (sz := 0) rfl Tryd.underlying32 rfl Tryd.sizeOf28 rfl) rfl rfl rfl (fun ac F => ?_)
  refine stp F (f_load1 (v := .slice ((Ra 1).A) ((Ra 1).vs.length) ((Ra 1).c)) rfl Tryd.isAgg28 ((hga.cell _).trans rfl)) rfl rfl rfl (fun ac F => ?_)
  refine stp F (f_len rfl Tryd.underlying28) rfl rfl rfl (fun ac F => ?_)
  refine stp F (f_neq rfl rfl) rfl rfl rfl (fun ac F => ?_)
  refine stp F (f_pickF rfl rfl) rfl rfl rfl (fun ac F => ?_)
  refine stpEnd ?_
  refine H16 _ _ ?_
  have hc : (((Ra 1).vs.length : Nat) : Int) = 1 := by rw [hva, line0_hold]; rfl
  replace F := F.setb (k := 39) (b' := false) rfl (nt (decide_eq_true hc))
  replace F := F.setb (k := 40) (b' := false) rfl (nt (decide_eq_true hc))
  refine c_false F rfl ?_
  refine wp_skip ?_
  refine H4 _ _ ?_
  refine c_seq (fun K17 H18 => ?_)
  refine c_region ?_
  refine stp F (f_move rfl) rfl rfl rfl (fun ac F => ?_)
  refine stpC F (f_call (P := Tryd.prog) (f := 6) (vs := [.slice A ps.length c]) rfl Tryd.call6) (play_c A c ps _ ((hls.keep kp0 (by simp)).more (Nat.zero_le _) (by omega)) hps hn (ok_take _) (htab.kp kp0)) rfl rfl rfl ?_
  rintro _ w19 ac ⟨gb, rfl, kq20, R, hv, hgb, hR⟩ F
  have hsz := (kq20).size
  replace hga := hga.keep (kq20) (by simp)
  replace kp0 := kp0.trans (kq20) (by simp)
  have hbase : w0.heap.size ≤ w13.heap.size := by omega
  have hI := Inv.play ps
  have hCh : ∀ p : Nat, p < 4 → Chain (fun _ => 0) (R (5 + p)).vs ((playN ps).sn p) := fun p hp => by rw [hv]; exact hI.chain p hp
  have hTl : ∀ p : Nat, p < 4 → (R (5 + p)).vs.length ≤ 200000000 := fun p hp => by rw [hv]; exact hI.ok.told p hp
  refine stp F (f_move rfl) rfl rfl rfl (fun ac F => ?_)
  refine stp F (f_extract (vs := [.pointer (some ⟨gb, 0, none⟩), .bool true]) rfl rfl) rfl rfl rfl (fun ac F => ?_)
  refine stp F (f_extract (vs := [.pointer (some ⟨gb, 0, none⟩), .bool true]) rfl rfl) rfl rfl rfl (fun ac F => ?_)
  refine stp F (f_assign rfl) rfl rfl rfl (fun ac F => ?_)
  refine stp F (f_assign rfl) rfl rfl rfl (fun ac F => ?_)
  refine stpEnd ?_
  refine H18 _ _ ?_
  refine c_seq (fun K21 H22 => ?_)
  refine c_seq (fun K23 H24 => ?_)
  refine c_region ?_
  refine stp F (f_move rfl) rfl rfl rfl (fun ac F => ?_)
  refine stp F (f_not rfl) rfl rfl rfl (fun ac F => ?_)
  refine stpEnd ?_
  refine H24 _ _ ?_
  refine c_false F rfl ?_
  refine wp_skip ?_
  refine H22 _ _ ?_
  refine c_seq (fun K25 H26 => ?_)
  refine c_seq (fun K27 H28 => ?_)
  refine c_region ?_
  refine stp F (f_move rfl) rfl rfl rfl (fun ac F => ?_)
  refine stpEnd ?_
  refine H28 _ _ ?_
  refine wp_block ?_
  refine c_loop (fun mx ax wx => ∃ (p : Nat), Fr ax 91 [(5, .pointer (some ⟨gb, 0, none⟩)), (48, .int .i64 (p : Int))] ∧ Kp [] w0 wx ∧ Blk wx gb 36 (grpL idn ((playN ps).sn) R) ∧ Rows wx w13.heap.size gb R ∧ (p ≤ 4) ∧ mx = 4 - p) (4 - 0) ?_ ?_
  · exact ⟨0, F.sub ⟨rfl, rfl, trivial⟩, kp0, hgb, hR, by omega, rfl⟩
  · clear F kp0 hgb hR
    rintro m30 ac wl29 ⟨p, F, kp0, hgb, hR, hp, hm⟩
    have hsz := kp0.size
    have lt_hgb := hgb.lt
    refine c_seq (fun K31 H32 => ?_)
    refine c_region ?_
    refine stp F (f_lss rfl rfl) rfl rfl rfl (fun ac F => ?_)
    refine stpEnd ?_
    refine H32 _ _ ?_
    refine c_seq (fun K33 H34 => ?_)
    by_cases hc35 : (p : Int) < 4
    · have hc := hc35
      replace F := F.setb (k := 49) (b' := true) rfl (decide_eq_true hc)
      clear hc
      refine c_true F rfl ?_
      refine wp_skip ?_
      refine H34 _ _ ?_
      refine c_seq (fun K36 H37 => ?_)
      refine wp_block ?_
      refine c_seq (fun K38 H39 => ?_)
      refine c_region ?_
      refine stp F (f_move rfl) rfl rfl rfl (fun ac F => ?_)
      refine stp F (f_assign rfl) rfl rfl rfl (fun ac F => ?_)
      refine stpEnd ?_
      refine H39 _ _ ?_
      refine c_seq (fun K40 H41 => ?_)
      refine c_region ?_
      refine stp F (f_move rfl) rfl rfl rfl (fun ac F => ?_)
      refine stpEnd ?_
      refine H41 _ _ ?_
      refine wp_block ?_
      refine c_loop (fun mx ax wx => ∃ (f : Nat), Fr ax 91 [(5, .pointer (some ⟨gb, 0, none⟩)), (48, .int .i64 (p : Int)), (7, .int .i64 (p : Int)), (51, .int .i64 (f : Int))] ∧ Kp [] w0 wx ∧ Blk wx gb 36 (grpL idn ((playN ps).sn) R) ∧ Rows wx w13.heap.size gb R ∧ (f ≤ 4) ∧ mx = 4 - f) (4 - 0) ?_ ?_
      · exact ⟨0, F.sub ⟨rfl, rfl, rfl, rfl, trivial⟩, kp0, hgb, hR, by omega, rfl⟩
      · clear F kp0 hgb hR
        rintro m43 ac wl42 ⟨f, F, kp0, hgb, hR, hf, hm⟩
        have hsz := kp0.size
        have lt_hgb := hgb.lt
        refine c_seq (fun K44 H45 => ?_)
        refine c_region ?_
        refine stp F (f_lss rfl rfl) rfl rfl rfl (fun ac F => ?_)
        refine stpEnd ?_
        refine H45 _ _ ?_
        refine c_seq (fun K46 H47 => ?_)
        by_cases hc48 : (f : Int) < 4
        · have hc := hc48
          replace F := F.setb (k := 52) (b' := true) rfl (decide_eq_true hc)
          clear hc
          refine c_true F rfl ?_
          refine wp_skip ?_
          refine H47 _ _ ?_
          refine c_seq (fun K49 H50 => ?_)
          refine wp_block ?_
          refine c_seq (fun K51 H52 => ?_)
          refine c_region ?_
          refine stp F (f_move rfl) rfl rfl rfl (fun ac F => ?_)
          refine stp F (f_assign rfl) rfl rfl rfl (fun ac F => ?_)
          refine stpEnd ?_
          refine H52 _ _ ?_
          refine c_seq (fun K53 H54 => ?_)
          refine c_region ?_
          refine stp F (f_assign rfl) rfl rfl rfl (fun ac F => ?_)
          refine stpEnd ?_
          refine H54 _ _ ?_
          refine c_seq (fun K55 H56 => ?_)
          refine c_seq (fun K57 H58 => ?_)
          have hTp := hTl p (by omega)
          refine c_region ?_
          refine stp F (f_move rfl) rfl rfl rfl (fun ac F => ?_)
          refine stp F (f_move rfl) rfl rfl rfl (fun ac F => ?_)
          refine stp F (f_nilCheck rfl) rfl rfl rfl (fun ac F => ?_)
          refine stp F (f_fieldAddr (r := ⟨gb, 33, none⟩) (sz := 3) rfl Tryd.underlying36 rfl Tryd.sizeOf34 rfl) rfl rfl rfl (fun ac F => ?_)
          refine stp F (f_indexA (r := ⟨gb, 33 + p * 1, none⟩) rfl rfl Tryd.underlying34 Tryd.sizeOf28 (by omega) (by omega) (add_eq (by omega))) rfl rfl rfl (fun ac F => ?_)
          refine stp F (f_load1 (v := .slice ((R (5 + p)).A) ((R (5 + p)).vs.length) ((R (5 + p)).c)) rfl Tryd.isAgg28 ((hgb.cell _).trans (grp_told (p := p) (by omega) rfl))) rfl rfl rfl (fun ac F => ?_)
          refine stp F (f_len rfl Tryd.underlying28) rfl rfl rfl (fun ac F => ?_)
          refine stp F (f_move rfl) rfl rfl rfl (fun ac F => ?_)
          refine stpEnd ?_
          refine H58 _ _ ?_
          refine wp_block ?_
          have hrow := (hR.own (5 + p) (by omega)).msl
          refine c_loop (fun mx ax wx => ∃ (i : Nat), ∃ (n : Nat), Fr ax 91 [(5, .pointer (some ⟨gb, 0, none⟩)), (48, .int .i64 (p : Int)), (7, .int .i64 (p : Int)), (51, .int .i64 (f : Int)), (8, .int .i64 (f : Int)), (59, .slice ((R (5 + p)).A) ((R (5 + p)).vs.length) ((R (5 + p)).c)), (60, .int .i64 (((R (5 + p)).vs.length : Nat) : Int)), (61, .int .i64 (i : Int)), (9, .int .i64 (n : Int))] ∧ Kp [] w0 wx ∧ Blk wx gb 36 (grpL idn ((playN ps).sn) R) ∧ Rows wx w13.heap.size gb R ∧ (i ≤ (R (5 + p)).vs.length) ∧ (n = cntF f ((R (5 + p)).vs.take i)) ∧ mx = (R (5 + p)).vs.length - i) ((R (5 + p)).vs.length - 0) ?_ ?_
          · exact ⟨0, 0, F.sub ⟨rfl, rfl, rfl, rfl, rfl, rfl, rfl, rfl, rfl, trivial⟩, kp0, hgb, hR, by omega, by simp [cntF], rfl⟩
          · clear F kp0 hgb hR hrow
            rintro m60 ac wl59 ⟨i, n, F, kp0, hgb, hR, hi0, hn0, hm⟩
            have hsz := kp0.size
            have lt_hgb := hgb.lt
            have hRl := hR.lt9
            refine c_seq (fun K61 H62 => ?_)
            refine c_region ?_
            refine stp F (f_lss rfl rfl) rfl rfl rfl (fun ac F => ?_)
            refine stpEnd ?_
            refine H62 _ _ ?_
            refine c_seq (fun K63 H64 => ?_)
            by_cases hc65 : (i : Int) < (((R (5 + p)).vs.length : Nat) : Int)
            · have hc := hc65
              replace F := F.setb (k := 62) (b' := true) rfl (decide_eq_true hc)
              clear hc
              refine c_true F rfl ?_
              refine wp_skip ?_
              refine H64 _ _ ?_
              refine c_seq (fun K66 H67 => ?_)
              refine wp_block ?_
              refine c_seq (fun K68 H69 => ?_)
              have hi : i < (R (5 + p)).vs.length := by omega
              have hrow := (hR.own (5 + p) (by omega)).msl
              have hcn : n ≤ (R (5 + p)).vs.length := by rw [hn0]; exact Nat.le_trans List.countP_le_length (by simp; omega)
              refine c_region ?_
              refine stp F (f_indexS (r := ((adr ((R (5 + p)).A)).add (i * 8))) rfl rfl Tryd.underlying28 Tryd.sizeOf38 (by omega) (by omega) (hrow.some_ (by omega)).1 (by rw [show Int.toNat (i : Int) = i from by omega])) rfl rfl rfl (fun ac F => ?_)
              refine stp F (f_loadN rfl Tryd.isAgg38 Tryd.sizeOf38 (hrow.rd (i := i) (by omega) rfl)) rfl rfl rfl (fun ac F => ?_)
              refine stpE F (f_alloc (cs := [.int .i64 0, .int .i64 0, .int .i64 0, .int .i64 0, .int .i64 0, .int .i64 0, .int .i64 0, .string ByteArray.empty]) Tryd.zeroValue38 rfl) rfl rfl rfl ?_
              rintro _ w71 ac ⟨g70, rfl, nb73⟩ F
              have n74 := nb73.num
              have z75 := nb73.size
              have hsz := (nb73.kp).size
              replace hgb := hgb.keep (nb73.kp) (by simp)
              replace hR := hR.nil (nb73.kp)
              replace hrow := hrow.keep (nb73.kp) (by simp)
              replace kp0 := kp0.trans (nb73.kp) (by simp)
              have hb72 : Blk w71 g70 38 ([.int .i64 0, .int .i64 0, .int .i64 0, .int .i64 0, .int .i64 0, .int .i64 0, .int .i64 0, .string ByteArray.empty]) := nb73.blk
              refine stpW F (f_store (v := .agg #[.int .i64 (((R (5 + p)).vs.getD i default).f), .int .i64 (((R (5 + p)).vs.getD i default).a 0), .int .i64 (((R (5 + p)).vs.getD i default).a 1), .int .i64 (((R (5 + p)).vs.getD i default).a 2), .int .i64 (((R (5 + p)).vs.getD i default).a 3), .int .i64 (((R (5 + p)).vs.getD i default).a 4), .int .i64 (((R (5 + p)).vs.getD i default).a 5), .string (((R (5 + p)).vs.getD i default).t)]) (vs := [.int .i64 (((R (5 + p)).vs.getD i default).f), .int .i64 (((R (5 + p)).vs.getD i default).a 0), .int .i64 (((R (5 + p)).vs.getD i default).a 1), .int .i64 (((R (5 + p)).vs.getD i default).a 2), .int .i64 (((R (5 + p)).vs.getD i default).a 3), .int .i64 (((R (5 + p)).vs.getD i default).a 4), .int .i64 (((R (5 + p)).vs.getD i default).a 5), .string (((R (5 + p)).vs.getD i default).t)]) rfl rfl hb72 Tryd.sizeOf38 rfl rfl (by simp) (by simp [plainV])) rfl rfl ?_
              rintro w76 ac wr77 F
              have z78 := wr77.size
              have hsz := (wr77.kp).size
              replace hgb := hgb.keep (wr77.kp) (by have := hgb.lt; simp; omega)
              replace hR := hR.keep (wr77.kp) (by intro r hr x hx hm; have h1 := hRl r hr x hx; simp at hm; omega)
              replace hrow := hrow.keep (wr77.kp) (by intro x hx; simp at hx; omega)
              replace kp0 := kp0.trans (wr77.kp) (by intro x hx hl; simp at hx; omega)
              replace hb72 : Blk w76 g70 38 ([.int .i64 (((R (5 + p)).vs.getD i default).f), .int .i64 (((R (5 + p)).vs.getD i default).a 0), .int .i64 (((R (5 + p)).vs.getD i default).a 1), .int .i64 (((R (5 + p)).vs.getD i default).a 2), .int .i64 (((R (5 + p)).vs.getD i default).a 3), .int .i64 (((R (5 + p)).vs.getD i default).a 4), .int .i64 (((R (5 + p)).vs.getD i default).a 5), .string (((R (5 + p)).vs.getD i default).t)]) := wr77.blk
              refine stpEnd ?_
              refine H69 _ _ ?_
              refine c_seq (fun K79 H80 => ?_)
              refine c_region ?_
              refine stp F (f_fieldAddr (r := ⟨g70, 0, none⟩) (sz := 0) rfl Tryd.underlying38 rfl Tryd.sizeOf3 rfl) rfl rfl rfl (fun ac F => ?_)
              refine stp F (f_load1 (v := .int .i64 (((R (5 + p)).vs.getD i default).f)) rfl Tryd.isAgg3 ((hb72.cell 0).trans rfl)) rfl rfl rfl (fun ac F => ?_)
              refine stp F (f_move rfl) rfl rfl rfl (fun ac F => ?_)
              refine stp F (f_eql rfl rfl) rfl rfl rfl (fun ac F => ?_)
              refine stpEnd ?_
              refine H80 _ _ ?_
              by_cases hc81 : ((R (5 + p)).vs.getD i default).f = (f : Int)
              · have hc := hc81
                replace F := F.setb (k := 68) (b' := true) rfl (decide_eq_true hc)
                clear hc
                refine c_true F rfl ?_
                refine c_seq (fun K82 H83 => ?_)
                refine c_region ?_
                refine stp F (f_move rfl) rfl rfl rfl (fun ac F => ?_)
                refine stp F (f_add (r := ((n + 1 : Nat) : Int)) rfl rfl (by rw [IntKind.wrap_i64]; omega)) rfl rfl rfl (fun ac F => ?_)
                refine stp F (f_assign rfl) rfl rfl rfl (fun ac F => ?_)
                refine stpEnd ?_
                refine H83 _ _ ?_
                refine c_seq (fun K84 H85 => ?_)
                refine c_region ?_
                refine stp F (f_move rfl) rfl rfl rfl (fun ac F => ?_)
                refine stp F (f_fieldAddr (r := ⟨g70, 1, none⟩) (sz := 5) rfl Tryd.underlying38 rfl Tryd.sizeOf30 rfl) rfl rfl rfl (fun ac F => ?_)
                refine stp F (f_indexA (r := ⟨g70, 1 + f * 1, none⟩) rfl rfl Tryd.underlying30 Tryd.sizeOf3 (by omega) (by omega) (add_eq (by omega))) rfl rfl rfl (fun ac F => ?_)
                refine stp F (f_load1 (v := .int .i64 (((R (5 + p)).vs.getD i default).a f)) rfl Tryd.isAgg3 ((hb72.cell _).trans (six (o := 1) (q := 1 + f * 1) (f := fun i_ => .int .i64 (((R (5 + p)).vs.getD i default).a i_)) rfl rfl rfl rfl rfl rfl (j := f) (by omega) (by omega)))) rfl rfl rfl (fun ac F => ?_)
                refine stp F (f_move rfl) rfl rfl rfl (fun ac F => ?_)
                refine stp F (f_neq rfl rfl) rfl rfl rfl (fun ac F => ?_)
                refine stpEnd ?_
                refine H85 _ _ ?_
                by_cases hc86 : ((R (5 + p)).vs.getD i default).a f = ((n + 1 : Nat) : Int)
                · have hc := hc86
                  replace F := F.setb (k := 76) (b' := false) rfl (nt (decide_eq_true hc))
                  clear hc
                  refine c_false F rfl ?_
                  refine wp_skip ?_
                  refine H67 _ _ ?_
                  refine c_region ?_
                  refine stp F (f_add (r := ((i + 1 : Nat) : Int)) rfl rfl (by rw [IntKind.wrap_i64]; omega)) rfl rfl rfl (fun ac F => ?_)
                  refine stp F (f_move rfl) rfl rfl rfl (fun ac F => ?_)
                  refine stpEnd ?_
                  refine ⟨(R (5 + p)).vs.length - (i + 1), ?_, (i + 1), (n + 1), F.sub ⟨rfl, rfl, rfl, rfl, rfl, rfl, rfl, rfl, rfl, trivial⟩, kp0, hgb, hR, by omega, by rw [cnt_take hi]; simp only [show ((R (5 + p)).vs.getD i default).f = (f : Int) from hc81, if_true, if_false]; omega, rfl⟩
                  omega
                · have hc := hc86
                  exact absurd ((hCh p (by omega)).at_ f i hi hc81 (by omega)) (by omega)
              · have hc := hc81
                replace F := F.setb (k := 68) (b' := false) rfl (decide_eq_false hc)
                clear hc
                refine c_false F rfl ?_
                refine wp_skip ?_
                refine H67 _ _ ?_
                refine c_region ?_
                refine stp F (f_add (r := ((i + 1 : Nat) : Int)) rfl rfl (by rw [IntKind.wrap_i64]; omega)) rfl rfl rfl (fun ac F => ?_)
                refine stp F (f_move rfl) rfl rfl rfl (fun ac F => ?_)
                refine stpEnd ?_
                refine ⟨(R (5 + p)).vs.length - (i + 1), ?_, (i + 1), n, F.sub ⟨rfl, rfl, rfl, rfl, rfl, rfl, rfl, rfl, rfl, trivial⟩, kp0, hgb, hR, by omega, by rw [cnt_take hi]; simp only [eq_false hc81, if_true, if_false]; omega, rfl⟩
                omega
            · have hc := hc65
              replace F := F.setb (k := 62) (b' := false) rfl (decide_eq_false hc)
              clear hc
              refine c_false F rfl ?_
              refine wp_exit ?_
              refine H56 _ _ ?_
              refine c_seq (fun K87 H88 => ?_)
              refine c_region ?_
              refine stp F (f_move rfl) rfl rfl rfl (fun ac F => ?_)
              refine stp F (f_move rfl) rfl rfl rfl (fun ac F => ?_)
              refine stp F (f_move rfl) rfl rfl rfl (fun ac F => ?_)
              refine stp F (f_nilCheck rfl) rfl rfl rfl (fun ac F => ?_)
              refine stp F (f_fieldAddr (r := ⟨gb, 0, none⟩) (sz := 31) rfl Tryd.underlying36 rfl Tryd.sizeOf33 rfl) rfl rfl rfl (fun ac F => ?_)
              refine stp F (f_indexA (r := ⟨gb, p * 8, none⟩) rfl rfl Tryd.underlying33 Tryd.sizeOf32 (by omega) (by omega) (add_eq (by omega))) rfl rfl rfl (fun ac F => ?_)
              refine stp F (f_fieldAddr (r := ⟨gb, p * 8 + 1, none⟩) (sz := 5) rfl Tryd.underlying32 rfl Tryd.sizeOf30 (add_mk _ _ _)) rfl rfl rfl (fun ac F => ?_)
              refine stp F (f_indexA (r := ⟨gb, p * 8 + 1 + f * 1, none⟩) rfl rfl Tryd.underlying30 Tryd.sizeOf3 (by omega) (by omega) (add_eq (by omega))) rfl rfl rfl (fun ac F => ?_)
              refine stp F (f_load1 (v := .int .i64 (((playN ps).sn) p f)) rfl Tryd.isAgg3 ((hgb.cell _).trans (grp_seen (p := p) (q := f) (by omega) (by omega) rfl))) rfl rfl rfl (fun ac F => ?_)
              refine stp F (f_move rfl) rfl rfl rfl (fun ac F => ?_)
              refine stp F (f_neq rfl rfl) rfl rfl rfl (fun ac F => ?_)
              refine stpEnd ?_
              refine H88 _ _ ?_
              by_cases hc89 : ((playN ps).sn) p f = (n : Int)
              · have hc := hc89
                replace F := F.setb (k := 88) (b' := false) rfl (nt (decide_eq_true hc))
                clear hc
                refine c_false F rfl ?_
                refine wp_skip ?_
                refine H50 _ _ ?_
                refine c_region ?_
                refine stp F (f_add (r := ((f + 1 : Nat) : Int)) rfl rfl (by rw [IntKind.wrap_i64]; omega)) rfl rfl rfl (fun ac F => ?_)
                refine stp F (f_move rfl) rfl rfl rfl (fun ac F => ?_)
                refine stpEnd ?_
                refine ⟨4 - (f + 1), ?_, (f + 1), F.sub ⟨rfl, rfl, rfl, rfl, trivial⟩, kp0, hgb, hR, by omega, rfl⟩
                omega
              · have hc := hc89
                exact absurd ((hCh p (by omega)).cnt f) (by have hi1 : i = (R (5 + p)).vs.length := (by omega); subst hi1; rw [List.take_length] at hn0; omega)
        · have hc := hc48
          replace F := F.setb (k := 52) (b' := false) rfl (decide_eq_false hc)
          clear hc
          refine c_false F rfl ?_
          refine wp_exit ?_
          refine H37 _ _ ?_
          refine c_region ?_
          refine stp F (f_add (r := ((p + 1 : Nat) : Int)) rfl rfl (by rw [IntKind.wrap_i64]; omega)) rfl rfl rfl (fun ac F => ?_)
          refine stp F (f_move rfl) rfl rfl rfl (fun ac F => ?_)
          refine stpEnd ?_
          refine ⟨4 - (p + 1), ?_, (p + 1), F.sub ⟨rfl, rfl, trivial⟩, kp0, hgb, hR, by omega, rfl⟩
          omega
    · have hc := hc35
      replace F := F.setb (k := 49) (b' := false) rfl (decide_eq_false hc)
      clear hc
      refine c_false F rfl ?_
      refine wp_exit ?_
      refine H26 _ _ ?_
      refine c_seq (fun K90 H91 => ?_)
      refine c_region ?_
      refine stp F (f_assign rfl) rfl rfl rfl (fun ac F => ?_)
      refine stpEnd ?_
      refine H91 _ _ ?_
      refine wp_ret ?_
      refine ret1 F rfl rfl ?_
      exact ⟨rfl, kp0⟩

end Go.Proofs.YtkbngaollbmcbaaDoor.KK

namespace Go.Proofs.YtkbngaollbmcbaaDoor.KK
open Go Go.RowKit
open Go.ChangeShapes Go.WideShapes Go.ChangeAt Go.Deep
open Go.Proofs.YtkbngaollbmcbaaDoor

section
variable {H : Type} {enc : TypeId × Value → H} {P : Program} {w : World} {base : Nat} {spare : Nat → Bool} {held : Bool}
theorem pick_list {α : Type} [Inhabited α] {q : Nat → α → Prop} (n : Nat) (h : ∀ i, i < n → ∃ x, q i x) : ∃ l : List α, l.length = n ∧ ∀ i, i < n → q i (l.getD i default) := by
  refine ⟨(List.range n).map fun i => if h' : i < n then Classical.choose (h i h') else default, by simp, fun i hi => ?_⟩
  have := Classical.choose_spec (h i hi)
  simpa [hi] using this
theorem wf_i64 {z : Int} (h : (Lit.int .i64 z).wf = true) : i64 z := by
  simp only [Lit.wf, Bool.and_eq_true, decide_eq_true_eq] at h
  exact h
/-- A slice of posts that came in. -/
theorem open_posts {t e : TypeId} {f0 f1 f2 : Field} {fuel : Nat} {cs : List Value} {x : DataW H × List MemPlace} (ht : P.underlying t = some (.slice e)) (he : P.underlying e = some (.struct #[f0, f1, f2]))
    (hone : oneCellFields P #[f0, f1, f2] = true) (hC : P.cellsOf e = 3) (h0 : P.underlying f0.type = some (.int .i64)) (h1 : P.underlying f1.type = some (.int .i64)) (h2 : P.underlying f2.type = some (.int .i64)) (h : DataW.trod enc P w base spare held fuel t cs = some x) :
    ∃ (A : Option Addr) (c : Nat) (l : List Pst), cs = [.slice A l.length c] ∧ Sl w 0 w.heap.size 3 A l.length c (fun i => psV (l.getD i default)) ∧ (∀ x ∈ l, x.ok) ∧ l.length ≤ 9223372036854775807 := by
  rcases open_slice ht h with ⟨rfl, _⟩ | ⟨a, len, cap, m, n, D, Pl, rfl, hb, hl, hm, hmm, _, hi⟩
  · exact ⟨none, 0, [], rfl, Sl.nil _ _ _ _ _, by simp, by simp⟩
  · have key : ∀ i, i < len → ∃ e : Pst, RdAt w (a.add (i * 3)) 3 (psV e) ∧ e.ok := fun i hil => by
      have him : i < m := by rw [hmm]; split <;> omega
      obtain ⟨cs', hc, ht'⟩ := hi i him
      rw [hC] at hc
      obtain ⟨_, hlen, hcell⟩ := World.cells?_some hc
      obtain ⟨ys, k, _, _, _, hys, hf⟩ := DataW.trod_struct he ht'
      obtain ⟨c0, c1, c2, rfl⟩ : ∃ c0 c1 c2, cs' = [c0, c1, c2] := by
        match cs', hlen with
        | [c0, c1, c2], _ => exact ⟨c0, c1, c2, rfl⟩
      have g : ∀ (j : Nat) (f : Field) (c : Value), #[f0, f1, f2][j]? = some f → ([c0, c1, c2].drop j).take 1 = [c] → P.underlying f.type = some (.int .i64) → ∃ z, c = .int .i64 z ∧ i64 z := fun j f c hj hd hu => by
        obtain ⟨ho, hk⟩ := hone_of hone j f hj
        have h3 := hf j f hj
        rw [ho, hk, hd] at h3
        have hlt : j < ys.length := by rw [hys]; exact (Array.getElem?_eq_some_iff.1 hj).1
        rw [List.getElem?_eq_getElem hlt] at h3
        obtain ⟨z, hz, _, hw⟩ := DataW.trod_int hu h3
        simp at hz
        exact ⟨z, hz, wf_i64 hw⟩
      obtain ⟨z0, rfl, b0⟩ := g 0 f0 c0 rfl rfl h0
      obtain ⟨z1, rfl, b1⟩ := g 1 f1 c1 rfl rfl h1
      obtain ⟨z2, rfl, b2⟩ := g 2 f2 c2 rfl rfl h2
      refine ⟨⟨z0, z1, z2⟩, ⟨rfl, fun j u hu => ?_⟩, b0, b1, b2⟩
      have hu' : [Value.int .i64 z0, .int .i64 z1, .int .i64 z2][j]? = some u := by
        have : (#[Value.int .i64 z0, .int .i64 z1, .int .i64 z2] : Array Value)[j]? = some u := hu
        simpa using this
      have hj : j < 3 := (List.getElem?_eq_some_iff.1 hu').1
      rw [hcell j hj]; exact hu'
    obtain ⟨l, hll, hrd⟩ := pick_list len key
    refine ⟨some a, cap, l, by rw [hll], ⟨by omega, fun hp => ?_, fun i hi' => by rw [hll] at hi'; exact (hrd i hi').1⟩, fun x hx => ?_, by rw [hll]; unfold maxLen at hm; omega⟩
    · rw [hll] at hp
      refine ⟨rfl, Nat.zero_le _, ?_⟩
      have := (hrd 0 hp).1.2 0 (.int .i64 (l.getD 0 default).kind) rfl
      have hlt := World.block_lt_of_cell? w _ this
      rwa [KK.add_block, KK.add_block] at hlt
    · obtain ⟨i, hi2, rfl⟩ := List.mem_iff_getElem.1 hx
      have := (hrd i (by omega)).2
      simpa [hi2] using this
end
theorem own1 : ownKnob Tryd.prog.godebug = none := by kernel_rfl
theorem laidOut1 : laidOutB Tryd.prog = true := by kernel_rfl
/-- What the rows list. -/
abbrev laid3 : List (String × DataW Unit) := [("math/bits.deBruijn32tab", Rows.laid_math_bits_deBruijn32tab), ("math/bits.deBruijn64tab", Rows.laid_math_bits_deBruijn64tab), ("internal/strconv.uint64pow10", Rows.laid_internal_strconv_uint64pow10)]
theorem door_met (os : Os) (args : Array Value) : laidMetH Tryd.prog laid3 ((World.doorLaid Tryd.prog 400 os).forCall (fun _ _ => 0) ⟨#[], args, []⟩).memory :=
  laidMetH_of_parts3 (fuel := 8) (laidMet_of_run' 8 (by kernel_rfl) (by kernel_rfl)) (by kernel_rfl) (by kernel_rfl)
theorem tab_of_laid {W : World} (h : laidMetH Tryd.prog laid3 W) : Tab Tryd.prog W := by
  rw [MakeChecks.laidMetH_plain _ _ _ (by kernel_rfl)] at h
  obtain ⟨ps, ⟨g0, t0, cs0, f0, p0, q0, hg0, ht0, hv0, hd0, ⟨g1, t1, cs1, f1, p1, q1, hg1, ht1, hv1, hd1, ⟨g2, t2, cs2, f2, p2, q2, hg2, ht2, hv2, hd2, _, _⟩, _⟩, _⟩, _, _⟩ := h
  obtain rfl := Option.some.inj ((show Tryd.prog.globalNamed "internal/strconv.uint64pow10" = some 0 by kernel_rfl).symm.trans hg2)
  obtain rfl := Option.some.inj ((show (Tryd.prog.globals[0]?).map (·.type) = some 79 by kernel_rfl).symm.trans ht2)
  show W.var? _ _ = _
  rw [hv2]
  have := Lib.cells_of_tab (k := .u64) (zs := Lib.pow10Tab) (n := 20) (e := 71) Tryd.underlying79 Tryd.underlying71 (by kernel_rfl) (by kernel_rfl) hd2
  rw [← this]

set_option maxRecDepth 100000 in
theorem lineLifted (os : Os) (started : os.Started) (H : Type) (enc : TypeId × Value → H) :
    ReturnsInHanded {} Tryd.checked os 3 .any (fun w args => (Rows.causalLineSpec.pre enc Tryd.prog Tryd.f3 [] false w args ∧ laidMetH Tryd.prog laid3 w) ∧ sizedMet enc Tryd.prog Tryd.f3 (OpenSpec.ofChange Rows.causalLineSpec) false w args)
      (Rows.causalLineSpec.post enc Tryd.prog Tryd.f3 false true false false) := by
  refine returnsInHanded_of_change_and (C := Tryd.checked) (X := fun w _ => laidMetH Tryd.prog laid3 w) (fun _ _ _ hh h => h.of_heap hh) own1 started (by kernel_rfl) Tryd.func3
    (ChangeSpec.witness_shaped (enc := enc) (C := Tryd.checked) (os := os) (X := fun w _ => laidMetH Tryd.prog laid3 w) false (World.doorLaid Tryd.prog 400 os) #[.slice none 0 0] 8 rfl (World.shaped_of_RefB (by kernel_rfl) (by kernel_rfl)) (by kernel_rfl) (by kernel_rfl) (by kernel_rfl) (door_met os _)) ?_
  intro W base args ds gs before hval0 hW _ _ hL _
  have hval : ∀ (j : Nat) t v, Tryd.f3.params[j]? = some t → args[j]? = some v → Value.okWide Tryd.prog W .any base t v := hval0
  have hW' := hW
  obtain ⟨p, q, hA0, hV, rfl, hfz, hnd⟩ := hW
  have hA : DataW.TrodAll enc Tryd.prog W 0 (fun _ => true) true Tryd.f3.params.toList args.toList ds p := hA0
  rw [Tryd.params3] at hA hval
  obtain ⟨v0, vs0, d0, ds0, p0, q0, hargs, rfl, rfl, h0, r0⟩ := trodAll_cons hA
  obtain ⟨rfl, rfl, rfl⟩ := trodAll_nil r0
  obtain rfl : args = #[v0] := by cases args; simp_all
  obtain ⟨rfl, rfl⟩ := trodVars_none hV
  obtain ⟨a0, len0, cap0, rfl⟩ := okWide_slice Tryd.underlying22 (hval 0 22 v0 rfl rfl)
  have k0 := h0
  have lt0 : ∀ x ∈ p0, x.block < W.heap.size := by obtain ⟨m, hm⟩ := k0; exact DataW.trod_lt m _ _ _ hm
  obtain ⟨fuel, hf⟩ := h0
  obtain ⟨A, c, l, hcs, hsl, hok, hlen⟩ := open_posts Tryd.underlying22 Tryd.underlying27 (by kernel_rfl) (by kernel_rfl) Tryd.underlying3 Tryd.underlying3 Tryd.underlying3 hf
  simp [Value.cells] at hcs
  obtain ⟨rfl, rfl, rfl⟩ := hcs
  clear hA0 hval0
  refine (line_c a0 cap0 l W hsl hok hlen (tab_of_laid hL)).mono fun e W' he => ?_
  cases e with
  | panicked c => exact he.elim
  | outgrown => exact he.elim
  | returned v =>
    obtain ⟨rfl, kp⟩ := he
    have bel := kp.below
    exact ⟨_, rfl, _, _, _, [], _, [], hW', trodAll_mk1 (shut_bool Tryd.underlying4 _), (trodAll_cons_mk (Below.trod laidOut1 (by kernel_rfl) (of_decide_eq_true (by kernel_rfl)) k0 bel lt0) trodAll_mk0), rfl, bel.frame _, fun h => by cases h⟩

theorem line_row : Rows.CausalLineSaid :=
  OpenClaim.holds_of_wide 3 Tryd.f3 rfl rfl rfl rfl rfl rfl rfl ⟨rfl, rfl, rfl, rfl, rfl⟩ rfl rfl rfl rfl rfl (by kernel_rfl) Tryd.func3 (by kernel_rfl)
    (of_decide_eq_true (by kernel_rfl)) (by unfold Func.isWrapper; first | (rw [if_pos (by decide +kernel)]; kernel_rfl) | (rw [if_neg (by decide +kernel)]; exact ⟨rfl, rfl⟩))
    (fun os started H enc _ => lineLifted os started H enc)
theorem causalLine_holds : Rows.CausalLineCardSaid :=
  Claim7.holds_tied_plain_at .later [] [.data, .data, .data] true (true, "14b0026c41719434ed4ac978c33fc0fc6010f237949abf9a9ad0e60fd5291d1c") false
    line_row (fun _ h => by cases h) (by kernel_rfl) (fun _ h => by cases h) causalLine_row_tie rfl ⟨rfl, rfl⟩ (by kernel_rfl) rfl
    (fun f fn hf hfn => by
      obtain rfl : f = 3 := Option.some.inj ((show Tryd.prog.funcNamed "partsong/partkeep.CausalLine" = some 3 by kernel_rfl).symm.trans hf) |>.symm
      obtain rfl : fn = Tryd.f3 := (Option.some.inj (Tryd.func3.symm.trans hfn)).symm
      exact ⟨by kernel_rfl, fun j t ht => by
        rw [Tryd.params3] at ht
        have hm : t ∈ [22] := by simpa using Array.mem_of_getElem? ht
        have hall : ([22].all fun u => !Tryd.prog.wantsStandIn u) = true := by kernel_rfl
        exact (show Tryd.prog.wantsStandIn t = false by simpa using List.all_eq_true.1 hall t hm)⟩)
    (by kernel_rfl)
end Go.Proofs.YtkbngaollbmcbaaDoor.KK
