/- What the proof leans on: rules for a walk through the code, walks of functions, and plain laws. No condition. -/
import Derived.Test.YtkbngaollbmcbaaFa

namespace Go.Proofs.Ytkbngaollbmcbaa.KK
open Go Go.RowKit

set_option maxHeartbeats 4000000 in
theorem chk_c (num : Int) (mem gone : Nat) (R : Nat → Ri) (w0 : World) (hmem : mem < 256) (hgone : gone < 256) (hS : ∀ p : Nat, p < 6 → Sl w0 0 w0.heap.size 1 (R p).A (R p).l.length (R p).c (nvv (R p).l)) : Calls Try.prog 35 #[.agg #[.int .i64 num, .int .u8 (mem : Int), .int .u8 (gone : Int), .slice ((R 0).A) ((R 0).l.length) ((R 0).c), .slice ((R 1).A) ((R 1).l.length) ((R 1).c), .slice ((R 2).A) ((R 2).l.length) ((R 2).c), .slice ((R 3).A) ((R 3).l.length) ((R 3).c), .slice ((R 4).A) ((R 4).l.length) ((R 4).c), .slice ((R 5).A) ((R 5).l.length) ((R 5).c)]] w0 (Ret fun v w' => ∃ e : Int, v = .int .i64 e ∧ (e = 0 ↔ OkF num mem gone (fun p => (R p).l)) ∧ Kp [] w0 w') := by
  refine enter (n := 63) Try.func35 rfl rfl rfl (fun ac F => ?_)
  have kp0 := Kp.refl ([] : List Nat) w0
  refine c_seq (fun K1 H2 => ?_)
  refine c_region ?_
  refine stpE F (f_box (cs := [.int .i64 num, .int .u8 (mem : Int), .int .u8 (gone : Int), .slice ((R 0).A) ((R 0).l.length) ((R 0).c), .slice ((R 1).A) ((R 1).l.length) ((R 1).c), .slice ((R 2).A) ((R 2).l.length) ((R 2).c), .slice ((R 3).A) ((R 3).l.length) ((R 3).c), .slice ((R 4).A) ((R 4).l.length) ((R 4).c), .slice ((R 5).A) ((R 5).l.length) ((R 5).c)]) rfl rfl) rfl rfl rfl ?_
  rintro _ w4 ac ⟨g3, rfl, nb6⟩ F
  have n7 := nb6.num
  have z8 := nb6.size
  have hsz := (nb6.kp).size
  replace kp0 := kp0.trans (nb6.kp) (by simp)
  have hb5 : Blk w4 g3 70 (flL num mem gone R) := nb6.blk
  refine stp F (f_assign rfl) rfl rfl rfl (fun ac F => ?_)
  refine stpEnd ?_
  refine H2 _ _ ?_
  refine c_seq (fun K9 H10 => ?_)
  refine c_seq (fun K11 H12 => ?_)
  refine c_region ?_
  refine stp F (f_fieldAddr (r := ⟨g3, 0, none⟩) (sz := 1) rfl Try.underlying70 rfl Try.sizeOf67 rfl) rfl rfl rfl (fun ac F => ?_)
  refine stp F (f_loadN rfl Try.isAgg67 Try.sizeOf67 (hb5.rd (o := 0) (v := .agg #[.int .i64 num, .int .u8 (mem : Int)]) rfl (by intro j u hu; exact part_at (ps := [.int .i64 num, .int .u8 (mem : Int)]) (by rfl) (by simpa [Value.cells] using hu)))) rfl rfl rfl (fun ac F => ?_)
  refine stpC F (f_call (P := Try.prog) (f := 54) (vs := [.agg #[.int .i64 num, .int .u8 (mem : Int)]]) rfl Try.call54) (vchk_c num mem _ hmem) rfl rfl rfl ?_
  rintro _ w13 ac ⟨e, rfl, hev, he01, kq14⟩ F
  have hsz := (kq14).size
  replace hb5 := hb5.keep (kq14) (by simp)
  replace kp0 := kp0.trans (kq14) (by simp)
  refine stp F (f_assign rfl) rfl rfl rfl (fun ac F => ?_)
  refine stpEnd ?_
  refine H12 _ _ ?_
  refine c_seq (fun K15 H16 => ?_)
  refine c_region ?_
  refine stp F (f_move rfl) rfl rfl rfl (fun ac F => ?_)
  refine stp F (f_neq rfl rfl) rfl rfl rfl (fun ac F => ?_)
  refine stpEnd ?_
  refine H16 _ _ ?_
  by_cases hc17 : e = 0
  · have hc := hc17
    replace F := F.setb (k := 12) (b' := false) rfl (nt (decide_eq_true hc))
    clear hc
    refine c_false F rfl ?_
    refine wp_skip ?_
    refine H10 _ _ ?_
    refine c_seq (fun K18 H19 => ?_)
    refine c_seq (fun K20 H21 => ?_)
    refine c_region ?_
    refine stp F (f_fieldAddr (r := ⟨g3, 2, none⟩) (sz := 0) rfl Try.underlying70 rfl Try.sizeOf5 rfl) rfl rfl rfl (fun ac F => ?_)
    refine stp F (f_load1 (v := .int .u8 (gone : Int)) rfl Try.isAgg5 ((hb5.cell _).trans rfl)) rfl rfl rfl (fun ac F => ?_)
    refine stp F (f_fieldAddr (r := ⟨g3, 0, none⟩) (sz := 1) rfl Try.underlying70 rfl Try.sizeOf67 rfl) rfl rfl rfl (fun ac F => ?_)
    refine stp F (f_fieldAddr (r := ⟨g3, 1, none⟩) (sz := 0) rfl Try.underlying67 rfl Try.sizeOf5 rfl) rfl rfl rfl (fun ac F => ?_)
    refine stp F (f_load1 (v := .int .u8 (mem : Int)) rfl Try.isAgg5 ((hb5.cell _).trans rfl)) rfl rfl rfl (fun ac F => ?_)
    refine stp F (f_u8andn (a := gone) (b := mem) rfl rfl) rfl rfl rfl (fun ac F => ?_)
    refine stp F (f_neq rfl rfl) rfl rfl rfl (fun ac F => ?_)
    refine stpEnd ?_
    refine H21 _ _ ?_
    by_cases hc22 : ((uandn gone mem : Nat) : Int) = 0
    · have hc := hc22
      replace F := F.setb (k := 20) (b' := false) rfl (nt (decide_eq_true hc))
      clear hc
      refine c_false F rfl ?_
      refine wp_skip ?_
      refine H19 _ _ ?_
      refine c_seq (fun K23 H24 => ?_)
      refine c_seq (fun K25 H26 => ?_)
      refine c_region ?_
      refine stp F (f_fieldAddr (r := ⟨g3, 3, none⟩) (sz := 5) rfl Try.underlying70 rfl Try.sizeOf68 rfl) rfl rfl rfl (fun ac F => ?_)
      refine stp F (f_loadN rfl Try.isAgg68 Try.sizeOf68 (hb5.rd (o := 3) (v := .agg #[.slice ((R 0).A) ((R 0).l.length) ((R 0).c), .slice ((R 1).A) ((R 1).l.length) ((R 1).c), .slice ((R 2).A) ((R 2).l.length) ((R 2).c), .slice ((R 3).A) ((R 3).l.length) ((R 3).c), .slice ((R 4).A) ((R 4).l.length) ((R 4).c), .slice ((R 5).A) ((R 5).l.length) ((R 5).c)]) rfl (by intro j u hu; exact part_at (ps := [.slice ((R 0).A) ((R 0).l.length) ((R 0).c), .slice ((R 1).A) ((R 1).l.length) ((R 1).c), .slice ((R 2).A) ((R 2).l.length) ((R 2).c), .slice ((R 3).A) ((R 3).l.length) ((R 3).c), .slice ((R 4).A) ((R 4).l.length) ((R 4).c), .slice ((R 5).A) ((R 5).l.length) ((R 5).c)]) (by rfl) (by simpa [Value.cells] using hu)))) rfl rfl rfl (fun ac F => ?_)
      refine stp F (f_move rfl) rfl rfl rfl (fun ac F => ?_)
      refine stpEnd ?_
      refine H26 _ _ ?_
      refine wp_block ?_
      refine c_loop (fun mx ax wx => ∃ (p : Nat), Fr ax 63 [(1, .pointer (some ⟨g3, 0, none⟩)), (22, .agg #[.slice ((R 0).A) ((R 0).l.length) ((R 0).c), .slice ((R 1).A) ((R 1).l.length) ((R 1).c), .slice ((R 2).A) ((R 2).l.length) ((R 2).c), .slice ((R 3).A) ((R 3).l.length) ((R 3).c), .slice ((R 4).A) ((R 4).l.length) ((R 4).c), .slice ((R 5).A) ((R 5).l.length) ((R 5).c)]), (23, .int .i64 (p : Int))] ∧ Kp [] w0 wx ∧ Blk wx g3 70 (flL num mem gone R) ∧ (p ≤ 6) ∧ (∀ q, q < p → RowOk mem q (R q).l) ∧ mx = 6 - p) (6 - 0) ?_ ?_
      · exact ⟨0, F.sub ⟨rfl, rfl, rfl, trivial⟩, kp0, hb5, by omega, fun q hq => by omega, rfl⟩
      · clear F kp0 hb5
        rintro m28 ac wl27 ⟨p, F, kp0, hb5, hp, hrows, hm⟩
        have hsz := kp0.size
        have lt_hb5 := hb5.lt
        refine c_seq (fun K29 H30 => ?_)
        refine c_region ?_
        refine stp F (f_lss rfl rfl) rfl rfl rfl (fun ac F => ?_)
        refine stpEnd ?_
        refine H30 _ _ ?_
        refine c_seq (fun K31 H32 => ?_)
        by_cases hc33 : (p : Int) < 6
        · have hc := hc33
          replace F := F.setb (k := 24) (b' := true) rfl (decide_eq_true hc)
          clear hc
          refine c_true F rfl ?_
          refine wp_skip ?_
          refine H32 _ _ ?_
          refine c_seq (fun K34 H35 => ?_)
          refine wp_block ?_
          refine c_seq (fun K36 H37 => ?_)
          refine c_region ?_
          refine stp F (f_move rfl) rfl rfl rfl (fun ac F => ?_)
          refine stp F (f_index1 (cs := [.slice ((R 0).A) ((R 0).l.length) ((R 0).c), .slice ((R 1).A) ((R 1).l.length) ((R 1).c), .slice ((R 2).A) ((R 2).l.length) ((R 2).c), .slice ((R 3).A) ((R 3).l.length) ((R 3).c), .slice ((R 4).A) ((R 4).l.length) ((R 4).c), .slice ((R 5).A) ((R 5).l.length) ((R 5).c)]) (v := .slice ((R p).A) ((R p).l.length) ((R p).c)) rfl rfl Try.underlying68 Try.isAgg23 Try.sizeOf23 (by omega) (by omega) (by rcases six_of (show p < 6 by omega) with h | h | h | h | h | h <;> subst h <;> rfl)) rfl rfl rfl (fun ac F => ?_)
          refine stp F (f_assign rfl) rfl rfl rfl (fun ac F => ?_)
          refine stp F (f_assign rfl) rfl rfl rfl (fun ac F => ?_)
          refine stpEnd ?_
          refine H37 _ _ ?_
          refine c_seq (fun K38 H39 => ?_)
          refine wp_block ?_
          refine c_seq (fun K40 H41 => ?_)
          refine c_region ?_
          refine stp F (f_move rfl) rfl rfl rfl (fun ac F => ?_)
          refine stp F (f_len rfl Try.underlying23) rfl rfl rfl (fun ac F => ?_)
          refine stp F (f_gtr rfl rfl) rfl rfl rfl (fun ac F => ?_)
          refine stp F (f_assign rfl) rfl rfl rfl (fun ac F => ?_)
          refine stpEnd ?_
          refine H41 _ _ ?_
          by_cases hc42 : 30 < (((R p).l.length : Nat) : Int)
          · have hc := hc42
            replace F := F.setb (k := 30) (b' := true) rfl (decide_eq_true hc)
            replace F := F.setb (k := 27) (b' := true) rfl (decide_eq_true hc)
            clear hc
            refine c_true F rfl ?_
            refine c_seq (fun K43 H44 => ?_)
            refine c_region ?_
            refine stp F (f_assign rfl) rfl rfl rfl (fun ac F => ?_)
            refine stpEnd ?_
            refine H44 _ _ ?_
            refine wp_ret ?_
            refine ret1 F rfl rfl ?_
            exact ⟨2, rfl, ⟨fun h => absurd h (by decide), fun hOk => by have h_ : RowOk mem p (R p).l := hOk.2.2 p (by omega); have := h_.1; omega⟩, kp0⟩
          · have hc := hc42
            replace F := F.setb (k := 30) (b' := false) rfl (decide_eq_false hc)
            replace F := F.setb (k := 27) (b' := false) rfl (decide_eq_false hc)
            clear hc
            refine c_false F rfl ?_
            refine c_seq (fun K45 H46 => ?_)
            refine c_region ?_
            refine stp F (f_move rfl) rfl rfl rfl (fun ac F => ?_)
            refine stp F (f_len rfl Try.underlying23) rfl rfl rfl (fun ac F => ?_)
            refine stp F (f_gtr rfl rfl) rfl rfl rfl (fun ac F => ?_)
            refine stp F (f_move rfl) rfl rfl rfl (fun ac F => ?_)
            by_cases hc47 : 0 < (((R p).l.length : Nat) : Int)
            · have hc := hc47
              replace F := F.setb (k := 34) (b' := true) rfl (decide_eq_true hc)
              replace F := F.setb (k := 35) (b' := true) rfl (decide_eq_true hc)
              clear hc
              refine stp F (f_fieldAddr (r := ⟨g3, 0, none⟩) (sz := 1) rfl Try.underlying70 rfl Try.sizeOf67 rfl) rfl rfl rfl (fun ac F => ?_)
              refine stp F (f_fieldAddr (r := ⟨g3, 1, none⟩) (sz := 0) rfl Try.underlying67 rfl Try.sizeOf5 rfl) rfl rfl rfl (fun ac F => ?_)
              refine stp F (f_load1 (v := .int .u8 (mem : Int)) rfl Try.isAgg5 ((hb5.cell _).trans rfl)) rfl rfl rfl (fun ac F => ?_)
              refine stp F (f_move rfl) rfl rfl rfl (fun ac F => ?_)
              refine stp F (f_u8shr (a := mem) (j := p) (by first | omega | exact uandn_lt _ _ | exact uor_lt _ _ | exact uand_lt _ _) (by omega) rfl rfl) rfl rfl rfl (fun ac F => ?_)
              refine stp F (f_u8and (a := (mem / 2 ^ p)) (b := 1) rfl rfl) rfl rfl rfl (fun ac F => ?_)
              refine stp F (f_eql rfl rfl) rfl rfl rfl (fun ac F => ?_)
              refine stp F (f_pickT rfl rfl) rfl rfl rfl (fun ac F => ?_)
              refine stp F (f_assign rfl) rfl rfl rfl (fun ac F => ?_)
              refine stpEnd ?_
              refine H46 _ _ ?_
              by_cases hc48 : ((uand (mem / 2 ^ p) 1 : Nat) : Int) = 0
              · have hc := hc48
                replace F := F.setb (k := 42) (b' := true) rfl (decide_eq_true hc)
                replace F := F.setb (k := 43) (b' := true) rfl (decide_eq_true hc)
                replace F := F.setb (k := 31) (b' := true) rfl (decide_eq_true hc)
                clear hc
                refine c_true F rfl ?_
                refine c_seq (fun K49 H50 => ?_)
                refine c_region ?_
                refine stp F (f_assign rfl) rfl rfl rfl (fun ac F => ?_)
                refine stpEnd ?_
                refine H50 _ _ ?_
                refine wp_ret ?_
                refine ret1 F rfl rfl ?_
                exact ⟨4, rfl, ⟨fun h => absurd h (by decide), fun hOk => by have h0_ : RowOk mem p (R p).l := hOk.2.2 p (by omega); have h_ := h0_.2.1 (by omega); omega⟩, kp0⟩
              · have hc := hc48
                replace F := F.setb (k := 42) (b' := false) rfl (decide_eq_false hc)
                replace F := F.setb (k := 43) (b' := false) rfl (decide_eq_false hc)
                replace F := F.setb (k := 31) (b' := false) rfl (decide_eq_false hc)
                clear hc
                refine c_false F rfl ?_
                refine wp_skip ?_
                refine H39 _ _ ?_
                refine c_seq (fun K51 H52 => ?_)
                refine c_region ?_
                refine stp F (f_move rfl) rfl rfl rfl (fun ac F => ?_)
                refine stp F (f_len rfl Try.underlying23) rfl rfl rfl (fun ac F => ?_)
                refine stp F (f_move rfl) rfl rfl rfl (fun ac F => ?_)
                refine stpEnd ?_
                refine H52 _ _ ?_
                refine wp_block ?_
                refine c_loop (fun mx ax wx => ∃ (i : Nat), Fr ax 63 [(1, .pointer (some ⟨g3, 0, none⟩)), (22, .agg #[.slice ((R 0).A) ((R 0).l.length) ((R 0).c), .slice ((R 1).A) ((R 1).l.length) ((R 1).c), .slice ((R 2).A) ((R 2).l.length) ((R 2).c), .slice ((R 3).A) ((R 3).l.length) ((R 3).c), .slice ((R 4).A) ((R 4).l.length) ((R 4).c), .slice ((R 5).A) ((R 5).l.length) ((R 5).c)]), (23, .int .i64 (p : Int)), (4, .int .i64 (p : Int)), (5, .slice ((R p).A) ((R p).l.length) ((R p).c)), (44, .slice ((R p).A) ((R p).l.length) ((R p).c)), (45, .int .i64 (((R p).l.length : Nat) : Int)), (46, .int .i64 (i : Int))] ∧ Kp [] w0 wx ∧ Blk wx g3 70 (flL num mem gone R) ∧ (i ≤ (R p).l.length) ∧ (∀ j, j < i → (0 ≤ (R p).l.getD j 0 ∧ (R p).l.getD j 0 ≤ 29) ∧ ∀ k, k < j → (R p).l.getD k 0 ≠ (R p).l.getD j 0) ∧ mx = (R p).l.length - i) ((R p).l.length - 0) ?_ ?_
                · exact ⟨0, F.sub ⟨rfl, rfl, rfl, rfl, rfl, rfl, rfl, rfl, trivial⟩, kp0, hb5, by omega, fun j hj => by omega, rfl⟩
                · clear F kp0 hb5
                  rintro m54 ac wl53 ⟨i, F, kp0, hb5, hi0, hrow, hm⟩
                  have hsz := kp0.size
                  have lt_hb5 := hb5.lt
                  refine c_seq (fun K55 H56 => ?_)
                  refine c_region ?_
                  refine stp F (f_lss rfl rfl) rfl rfl rfl (fun ac F => ?_)
                  refine stpEnd ?_
                  refine H56 _ _ ?_
                  refine c_seq (fun K57 H58 => ?_)
                  by_cases hc59 : (i : Int) < (((R p).l.length : Nat) : Int)
                  · have hc := hc59
                    replace F := F.setb (k := 47) (b' := true) rfl (decide_eq_true hc)
                    clear hc
                    refine c_true F rfl ?_
                    refine wp_skip ?_
                    refine H58 _ _ ?_
                    refine c_seq (fun K60 H61 => ?_)
                    refine wp_block ?_
                    refine c_seq (fun K62 H63 => ?_)
                    have hi : i < (R p).l.length := by omega
                    have hl := (hS p (by omega)).keep kp0 (by simp)
                    refine c_region ?_
                    refine stp F (f_move rfl) rfl rfl rfl (fun ac F => ?_)
                    refine stp F (f_indexS (r := ((adr ((R p).A)).add (i * 1))) rfl rfl Try.underlying23 Try.sizeOf3 (by omega) (by omega) (hl.some_ (by omega)).1 (by rw [show Int.toNat (i : Int) = i from by omega])) rfl rfl rfl (fun ac F => ?_)
                    refine stp F (f_load1 (v := .int .i64 (((R p).l).getD i 0)) rfl Try.isAgg3 (hl.cell1 (i := i) (by omega) rfl rfl)) rfl rfl rfl (fun ac F => ?_)
                    refine stp F (f_assign rfl) rfl rfl rfl (fun ac F => ?_)
                    refine stp F (f_assign rfl) rfl rfl rfl (fun ac F => ?_)
                    refine stpEnd ?_
                    refine H63 _ _ ?_
                    refine c_seq (fun K64 H65 => ?_)
                    refine c_region ?_
                    refine stp F (f_move rfl) rfl rfl rfl (fun ac F => ?_)
                    refine stpC F (f_call (P := Try.prog) (f := 56) (vs := [.int .i64 (((R p).l).getD i 0)]) rfl Try.call56) (msg_c _ _) rfl rfl rfl ?_
                    rintro _ w66 ac ⟨rfl, kq67⟩ F
                    have hsz := (kq67).size
                    replace hb5 := hb5.keep (kq67) (by simp)
                    replace hl := hl.keep (kq67) (by simp)
                    replace kp0 := kp0.trans (kq67) (by simp)
                    refine stp F (f_not rfl) rfl rfl rfl (fun ac F => ?_)
                    refine stp F (f_move rfl) rfl rfl rfl (fun ac F => ?_)
                    by_cases hc68 : 0 ≤ ((R p).l).getD i 0 ∧ ((R p).l).getD i 0 ≤ 29
                    · have hc := hc68
                      replace F := F.setb (k := 52) (b' := true) rfl (decide_eq_true hc)
                      replace F := F.setb (k := 53) (b' := false) rfl (nt (decide_eq_true hc))
                      replace F := F.setb (k := 54) (b' := false) rfl (nt (decide_eq_true hc))
                      clear hc
                      refine stp F (f_move rfl) rfl rfl rfl (fun ac F => ?_)
                      refine stp F (f_move rfl) rfl rfl rfl (fun ac F => ?_)
                      have hle := hl.le
                      refine stp F (f_sliceTo rfl rfl Try.underlying23 Try.sizeOf3 (by omega) (by omega)) rfl rfl rfl (fun ac F => ?_)
                      replace F := F.setv (k := 57) (v' := .slice ((R p).A) i ((R p).c)) rfl (by rw [show (i : Int).toNat = i from by omega])
                      refine stp F (f_move rfl) rfl rfl rfl (fun ac F => ?_)
                      refine stpC F (f_call (P := Try.prog) (f := 10) (vs := [.slice ((R p).A) i ((R p).c), .int .i64 (((R p).l).getD i 0)]) rfl Try.call10) (contains_c (R p).A i (R p).c _ _ (R p).l ((R p).l.getD i 0) _ (hl.take (by omega)) (by omega)) rfl rfl rfl ?_
                      rintro _ w69 ac ⟨b, rfl, hb, kq70⟩ F
                      have hsz := (kq70).size
                      replace hb5 := hb5.keep (kq70) (by simp)
                      replace hl := hl.keep (kq70) (by simp)
                      replace kp0 := kp0.trans (kq70) (by simp)
                      refine stp F (f_pickF rfl rfl) rfl rfl rfl (fun ac F => ?_)
                      refine stpEnd ?_
                      refine H65 _ _ ?_
                      by_cases hc71 : b = true
                      · have hc := hc71
                        replace F := F.setb (k := 59) (b' := true) rfl (hc)
                        replace F := F.setb (k := 60) (b' := true) rfl (hc)
                        clear hc
                        refine c_true F rfl ?_
                        refine c_seq (fun K72 H73 => ?_)
                        refine c_region ?_
                        refine stp F (f_assign rfl) rfl rfl rfl (fun ac F => ?_)
                        refine stpEnd ?_
                        refine H73 _ _ ?_
                        refine wp_ret ?_
                        refine ret1 F rfl rfl ?_
                        exact ⟨4, rfl, ⟨fun h => absurd h (by decide), fun hOk => by have h0_ : RowOk mem p (R p).l := hOk.2.2 p (by omega); have h_ := h0_.2.2 i hi; first | exact absurd h_.1 hc68 | (obtain ⟨k, hk1, hk2⟩ := hb.1 hc71; exact absurd hk2 (h_.2 k hk1))⟩, kp0⟩
                      · have hc := hc71
                        replace F := F.setb (k := 59) (b' := false) rfl (Bool.eq_false_iff.2 hc)
                        replace F := F.setb (k := 60) (b' := false) rfl (Bool.eq_false_iff.2 hc)
                        clear hc
                        refine c_false F rfl ?_
                        refine wp_skip ?_
                        refine H61 _ _ ?_
                        refine c_region ?_
                        refine stp F (f_add (r := ((i + 1 : Nat) : Int)) rfl rfl (by rw [IntKind.wrap_i64]; omega)) rfl rfl rfl (fun ac F => ?_)
                        refine stp F (f_move rfl) rfl rfl rfl (fun ac F => ?_)
                        refine stpEnd ?_
                        refine ⟨(R p).l.length - (i + 1), ?_, (i + 1), F.sub ⟨rfl, rfl, rfl, rfl, rfl, rfl, rfl, rfl, trivial⟩, kp0, hb5, by omega, upto_next hrow ⟨hc68, fun k hk e => hc71 (hb.2 ⟨k, hk, e⟩)⟩, rfl⟩
                        omega
                    · have hc := hc68
                      replace F := F.setb (k := 52) (b' := false) rfl (decide_eq_false hc)
                      replace F := F.setb (k := 53) (b' := true) rfl (nf (decide_eq_false hc))
                      replace F := F.setb (k := 54) (b' := true) rfl (nf (decide_eq_false hc))
                      clear hc
                      refine stpN F rfl rfl rfl (fun ac F => ?_)
                      refine stpN F rfl rfl rfl (fun ac F => ?_)
                      refine stpN F rfl rfl rfl (fun ac F => ?_)
                      refine stpN F rfl rfl rfl (fun ac F => ?_)
                      refine stpN F rfl rfl rfl (fun ac F => ?_)
                      refine stp F (f_pickT rfl rfl) rfl rfl rfl (fun ac F => ?_)
                      refine stpEnd ?_
                      refine H65 _ _ ?_
                      refine c_true F rfl ?_
                      refine c_seq (fun K74 H75 => ?_)
                      refine c_region ?_
                      refine stp F (f_assign rfl) rfl rfl rfl (fun ac F => ?_)
                      refine stpEnd ?_
                      refine H75 _ _ ?_
                      refine wp_ret ?_
                      refine ret1 F rfl rfl ?_
                      exact ⟨4, rfl, ⟨fun h => absurd h (by decide), fun hOk => by have h0_ : RowOk mem p (R p).l := hOk.2.2 p (by omega); have h_ := h0_.2.2 i hi; first | exact absurd h_.1 hc68 | (obtain ⟨k, hk1, hk2⟩ := hb.1 hc68; exact absurd hk2 (h_.2 k hk1))⟩, kp0⟩
                  · have hc := hc59
                    replace F := F.setb (k := 47) (b' := false) rfl (decide_eq_false hc)
                    clear hc
                    refine c_false F rfl ?_
                    refine wp_exit ?_
                    refine H35 _ _ ?_
                    refine c_region ?_
                    refine stp F (f_add (r := ((p + 1 : Nat) : Int)) rfl rfl (by rw [IntKind.wrap_i64]; omega)) rfl rfl rfl (fun ac F => ?_)
                    refine stp F (f_move rfl) rfl rfl rfl (fun ac F => ?_)
                    refine stpEnd ?_
                    refine ⟨6 - (p + 1), ?_, (p + 1), F.sub ⟨rfl, rfl, rfl, trivial⟩, kp0, hb5, by omega, upto_next hrows ⟨by omega, fun h => by omega, fun i2 hi2 => hrow i2 (by omega)⟩, rfl⟩
                    omega
            · have hc := hc47
              replace F := F.setb (k := 34) (b' := false) rfl (decide_eq_false hc)
              replace F := F.setb (k := 35) (b' := false) rfl (decide_eq_false hc)
              clear hc
              refine stpN F rfl rfl rfl (fun ac F => ?_)
              refine stpN F rfl rfl rfl (fun ac F => ?_)
              refine stpN F rfl rfl rfl (fun ac F => ?_)
              refine stpN F rfl rfl rfl (fun ac F => ?_)
              refine stpN F rfl rfl rfl (fun ac F => ?_)
              refine stpN F rfl rfl rfl (fun ac F => ?_)
              refine stpN F rfl rfl rfl (fun ac F => ?_)
              refine stp F (f_pickF rfl rfl) rfl rfl rfl (fun ac F => ?_)
              refine stp F (f_assign rfl) rfl rfl rfl (fun ac F => ?_)
              refine stpEnd ?_
              refine H46 _ _ ?_
              refine c_false F rfl ?_
              refine wp_skip ?_
              refine H39 _ _ ?_
              refine c_seq (fun K76 H77 => ?_)
              refine c_region ?_
              refine stp F (f_move rfl) rfl rfl rfl (fun ac F => ?_)
              refine stp F (f_len rfl Try.underlying23) rfl rfl rfl (fun ac F => ?_)
              refine stp F (f_move rfl) rfl rfl rfl (fun ac F => ?_)
              refine stpEnd ?_
              refine H77 _ _ ?_
              refine wp_block ?_
              refine c_loop (fun mx ax wx => ∃ (i : Nat), Fr ax 63 [(1, .pointer (some ⟨g3, 0, none⟩)), (22, .agg #[.slice ((R 0).A) ((R 0).l.length) ((R 0).c), .slice ((R 1).A) ((R 1).l.length) ((R 1).c), .slice ((R 2).A) ((R 2).l.length) ((R 2).c), .slice ((R 3).A) ((R 3).l.length) ((R 3).c), .slice ((R 4).A) ((R 4).l.length) ((R 4).c), .slice ((R 5).A) ((R 5).l.length) ((R 5).c)]), (23, .int .i64 (p : Int)), (4, .int .i64 (p : Int)), (5, .slice ((R p).A) ((R p).l.length) ((R p).c)), (44, .slice ((R p).A) ((R p).l.length) ((R p).c)), (45, .int .i64 (((R p).l.length : Nat) : Int)), (46, .int .i64 (i : Int))] ∧ Kp [] w0 wx ∧ Blk wx g3 70 (flL num mem gone R) ∧ (i ≤ (R p).l.length) ∧ (∀ j, j < i → (0 ≤ (R p).l.getD j 0 ∧ (R p).l.getD j 0 ≤ 29) ∧ ∀ k, k < j → (R p).l.getD k 0 ≠ (R p).l.getD j 0) ∧ mx = (R p).l.length - i) ((R p).l.length - 0) ?_ ?_
              · exact ⟨0, F.sub ⟨rfl, rfl, rfl, rfl, rfl, rfl, rfl, rfl, trivial⟩, kp0, hb5, by omega, fun j hj => by omega, rfl⟩
              · clear F kp0 hb5
                rintro m79 ac wl78 ⟨i, F, kp0, hb5, hi0, hrow, hm⟩
                have hsz := kp0.size
                have lt_hb5 := hb5.lt
                refine c_seq (fun K80 H81 => ?_)
                refine c_region ?_
                refine stp F (f_lss rfl rfl) rfl rfl rfl (fun ac F => ?_)
                refine stpEnd ?_
                refine H81 _ _ ?_
                refine c_seq (fun K82 H83 => ?_)
                by_cases hc84 : (i : Int) < (((R p).l.length : Nat) : Int)
                · have hc := hc84
                  replace F := F.setb (k := 47) (b' := true) rfl (decide_eq_true hc)
                  clear hc
                  refine c_true F rfl ?_
                  refine wp_skip ?_
                  refine H83 _ _ ?_
                  refine c_seq (fun K85 H86 => ?_)
                  refine wp_block ?_
                  refine c_seq (fun K87 H88 => ?_)
                  have hi : i < (R p).l.length := by omega
                  have hl := (hS p (by omega)).keep kp0 (by simp)
                  refine c_region ?_
                  refine stp F (f_move rfl) rfl rfl rfl (fun ac F => ?_)
                  refine stp F (f_indexS (r := ((adr ((R p).A)).add (i * 1))) rfl rfl Try.underlying23 Try.sizeOf3 (by omega) (by omega) (hl.some_ (by omega)).1 (by rw [show Int.toNat (i : Int) = i from by omega])) rfl rfl rfl (fun ac F => ?_)
                  refine stp F (f_load1 (v := .int .i64 (((R p).l).getD i 0)) rfl Try.isAgg3 (hl.cell1 (i := i) (by omega) rfl rfl)) rfl rfl rfl (fun ac F => ?_)
                  refine stp F (f_assign rfl) rfl rfl rfl (fun ac F => ?_)
                  refine stp F (f_assign rfl) rfl rfl rfl (fun ac F => ?_)
                  refine stpEnd ?_
                  refine H88 _ _ ?_
                  refine c_seq (fun K89 H90 => ?_)
                  refine c_region ?_
                  refine stp F (f_move rfl) rfl rfl rfl (fun ac F => ?_)
                  refine stpC F (f_call (P := Try.prog) (f := 56) (vs := [.int .i64 (((R p).l).getD i 0)]) rfl Try.call56) (msg_c _ _) rfl rfl rfl ?_
                  rintro _ w91 ac ⟨rfl, kq92⟩ F
                  have hsz := (kq92).size
                  replace hb5 := hb5.keep (kq92) (by simp)
                  replace hl := hl.keep (kq92) (by simp)
                  replace kp0 := kp0.trans (kq92) (by simp)
                  refine stp F (f_not rfl) rfl rfl rfl (fun ac F => ?_)
                  refine stp F (f_move rfl) rfl rfl rfl (fun ac F => ?_)
                  by_cases hc93 : 0 ≤ ((R p).l).getD i 0 ∧ ((R p).l).getD i 0 ≤ 29
                  · have hc := hc93
                    replace F := F.setb (k := 52) (b' := true) rfl (decide_eq_true hc)
                    replace F := F.setb (k := 53) (b' := false) rfl (nt (decide_eq_true hc))
                    replace F := F.setb (k := 54) (b' := false) rfl (nt (decide_eq_true hc))
                    clear hc
                    refine stp F (f_move rfl) rfl rfl rfl (fun ac F => ?_)
                    refine stp F (f_move rfl) rfl rfl rfl (fun ac F => ?_)
                    have hle := hl.le
                    refine stp F (f_sliceTo rfl rfl Try.underlying23 Try.sizeOf3 (by omega) (by omega)) rfl rfl rfl (fun ac F => ?_)
                    replace F := F.setv (k := 57) (v' := .slice ((R p).A) i ((R p).c)) rfl (by rw [show (i : Int).toNat = i from by omega])
                    refine stp F (f_move rfl) rfl rfl rfl (fun ac F => ?_)
                    refine stpC F (f_call (P := Try.prog) (f := 10) (vs := [.slice ((R p).A) i ((R p).c), .int .i64 (((R p).l).getD i 0)]) rfl Try.call10) (contains_c (R p).A i (R p).c _ _ (R p).l ((R p).l.getD i 0) _ (hl.take (by omega)) (by omega)) rfl rfl rfl ?_
                    rintro _ w94 ac ⟨b, rfl, hb, kq95⟩ F
                    have hsz := (kq95).size
                    replace hb5 := hb5.keep (kq95) (by simp)
                    replace hl := hl.keep (kq95) (by simp)
                    replace kp0 := kp0.trans (kq95) (by simp)
                    refine stp F (f_pickF rfl rfl) rfl rfl rfl (fun ac F => ?_)
                    refine stpEnd ?_
                    refine H90 _ _ ?_
                    by_cases hc96 : b = true
                    · have hc := hc96
                      replace F := F.setb (k := 59) (b' := true) rfl (hc)
                      replace F := F.setb (k := 60) (b' := true) rfl (hc)
                      clear hc
                      refine c_true F rfl ?_
                      refine c_seq (fun K97 H98 => ?_)
                      refine c_region ?_
                      refine stp F (f_assign rfl) rfl rfl rfl (fun ac F => ?_)
                      refine stpEnd ?_
                      refine H98 _ _ ?_
                      refine wp_ret ?_
                      refine ret1 F rfl rfl ?_
                      exact ⟨4, rfl, ⟨fun h => absurd h (by decide), fun hOk => by have h0_ : RowOk mem p (R p).l := hOk.2.2 p (by omega); have h_ := h0_.2.2 i hi; first | exact absurd h_.1 hc93 | (obtain ⟨k, hk1, hk2⟩ := hb.1 hc96; exact absurd hk2 (h_.2 k hk1))⟩, kp0⟩
                    · have hc := hc96
                      replace F := F.setb (k := 59) (b' := false) rfl (Bool.eq_false_iff.2 hc)
                      replace F := F.setb (k := 60) (b' := false) rfl (Bool.eq_false_iff.2 hc)
                      clear hc
                      refine c_false F rfl ?_
                      refine wp_skip ?_
                      refine H86 _ _ ?_
                      refine c_region ?_
                      refine stp F (f_add (r := ((i + 1 : Nat) : Int)) rfl rfl (by rw [IntKind.wrap_i64]; omega)) rfl rfl rfl (fun ac F => ?_)
                      refine stp F (f_move rfl) rfl rfl rfl (fun ac F => ?_)
                      refine stpEnd ?_
                      refine ⟨(R p).l.length - (i + 1), ?_, (i + 1), F.sub ⟨rfl, rfl, rfl, rfl, rfl, rfl, rfl, rfl, trivial⟩, kp0, hb5, by omega, upto_next hrow ⟨hc93, fun k hk e => hc96 (hb.2 ⟨k, hk, e⟩)⟩, rfl⟩
                      omega
                  · have hc := hc93
                    replace F := F.setb (k := 52) (b' := false) rfl (decide_eq_false hc)
                    replace F := F.setb (k := 53) (b' := true) rfl (nf (decide_eq_false hc))
                    replace F := F.setb (k := 54) (b' := true) rfl (nf (decide_eq_false hc))
                    clear hc
                    refine stpN F rfl rfl rfl (fun ac F => ?_)
                    refine stpN F rfl rfl rfl (fun ac F => ?_)
                    refine stpN F rfl rfl rfl (fun ac F => ?_)
                    refine stpN F rfl rfl rfl (fun ac F => ?_)
                    refine stpN F rfl rfl rfl (fun ac F => ?_)
                    refine stp F (f_pickT rfl rfl) rfl rfl rfl (fun ac F => ?_)
                    refine stpEnd ?_
                    refine H90 _ _ ?_
                    refine c_true F rfl ?_
                    refine c_seq (fun K99 H100 => ?_)
                    refine c_region ?_
                    refine stp F (f_assign rfl) rfl rfl rfl (fun ac F => ?_)
                    refine stpEnd ?_
                    refine H100 _ _ ?_
                    refine wp_ret ?_
                    refine ret1 F rfl rfl ?_
                    exact ⟨4, rfl, ⟨fun h => absurd h (by decide), fun hOk => by have h0_ : RowOk mem p (R p).l := hOk.2.2 p (by omega); have h_ := h0_.2.2 i hi; first | exact absurd h_.1 hc93 | (obtain ⟨k, hk1, hk2⟩ := hb.1 hc93; exact absurd hk2 (h_.2 k hk1))⟩, kp0⟩
                · have hc := hc84
                  replace F := F.setb (k := 47) (b' := false) rfl (decide_eq_false hc)
                  clear hc
                  refine c_false F rfl ?_
                  refine wp_exit ?_
                  refine H35 _ _ ?_
                  refine c_region ?_
                  refine stp F (f_add (r := ((p + 1 : Nat) : Int)) rfl rfl (by rw [IntKind.wrap_i64]; omega)) rfl rfl rfl (fun ac F => ?_)
                  refine stp F (f_move rfl) rfl rfl rfl (fun ac F => ?_)
                  refine stpEnd ?_
                  refine ⟨6 - (p + 1), ?_, (p + 1), F.sub ⟨rfl, rfl, rfl, trivial⟩, kp0, hb5, by omega, upto_next hrows ⟨by omega, fun h => by omega, fun i2 hi2 => hrow i2 (by omega)⟩, rfl⟩
                  omega
        · have hc := hc33
          replace F := F.setb (k := 24) (b' := false) rfl (decide_eq_false hc)
          clear hc
          refine c_false F rfl ?_
          refine wp_exit ?_
          refine H24 _ _ ?_
          refine c_seq (fun K101 H102 => ?_)
          refine c_region ?_
          refine stp F (f_assign rfl) rfl rfl rfl (fun ac F => ?_)
          refine stpEnd ?_
          refine H102 _ _ ?_
          refine wp_ret ?_
          refine ret1 F rfl rfl ?_
          exact ⟨0, rfl, ⟨fun _ => ⟨hev.1 hc17, by omega, fun q hq => hrows q (by omega)⟩, fun _ => rfl⟩, kp0⟩
    · have hc := hc22
      replace F := F.setb (k := 20) (b' := true) rfl (nf (decide_eq_false hc))
      clear hc
      refine c_true F rfl ?_
      refine c_seq (fun K103 H104 => ?_)
      refine c_region ?_
      refine stp F (f_assign rfl) rfl rfl rfl (fun ac F => ?_)
      refine stpEnd ?_
      refine H104 _ _ ?_
      refine wp_ret ?_
      refine ret1 F rfl rfl ?_
      exact ⟨4, rfl, ⟨fun h => absurd h (by decide), fun hOk => by first | (have h0_ : RowOk mem p (R p).l := hOk.2.2 p (by omega); have h_ := h0_.2.1 (by omega); omega) | (have h_ := hOk.2.1; omega)⟩, kp0⟩
  · have hc := hc17
    replace F := F.setb (k := 12) (b' := true) rfl (nf (decide_eq_false hc))
    clear hc
    refine c_true F rfl ?_
    refine c_seq (fun K105 H106 => ?_)
    refine c_region ?_
    refine stp F (f_move rfl) rfl rfl rfl (fun ac F => ?_)
    refine stp F (f_assign rfl) rfl rfl rfl (fun ac F => ?_)
    refine stpEnd ?_
    refine H106 _ _ ?_
    refine wp_ret ?_
    refine ret1 F rfl rfl ?_
    exact ⟨e, rfl, ⟨fun h => absurd h hc17, fun hOk => absurd (hev.2 hOk.1) hc17⟩, kp0⟩

def nilR : Nat → Ri := fun _ => ⟨none, 0, []⟩
theorem nilR_sl (w : World) : ∀ p : Nat, p < 6 → Sl w 0 w.heap.size 1 (nilR p).A (nilR p).l.length (nilR p).c (nvv (nilR p).l) := fun _ _ => Sl.nil _ _ _ _ _
theorem nil_upd {p : Nat} : upd nilR p ⟨none, 0, []⟩ = nilR := upd_same0 rfl


set_option maxHeartbeats 4000000 in
theorem new_c (mem : Nat) (w0 : World) (hmem : mem < 256) (hv : VOk 0 mem) : Calls Try.prog 29 #[.int .u8 (mem : Int)] w0 (Ret fun v w' => v = .tuple #[.agg #[.int .i64 0, .int .u8 (mem : Int), .int .u8 (0 : Int), .slice none 0 0, .slice none 0 0, .slice none 0 0, .slice none 0 0, .slice none 0 0, .slice none 0 0], .int .i64 0] ∧ Kp [] w0 w') := by
  refine enter (n := 17) Try.func29 rfl rfl rfl (fun ac F => ?_)
  have kp0 := Kp.refl ([] : List Nat) w0
  refine c_seq (fun K1 H2 => ?_)
  refine c_region ?_
  refine stpE F (f_alloc (cs := [.int .i64 0, .int .u8 0, .int .u8 0, .slice none 0 0, .slice none 0 0, .slice none 0 0, .slice none 0 0, .slice none 0 0, .slice none 0 0]) Try.zeroValue70 rfl) rfl rfl rfl ?_
  rintro _ w4 ac ⟨g3, rfl, nb6⟩ F
  have n7 := nb6.num
  have z8 := nb6.size
  have hsz := (nb6.kp).size
  replace kp0 := kp0.trans (nb6.kp) (by simp)
  have hb5 : Blk w4 g3 70 ([.int .i64 0, .int .u8 0, .int .u8 0, .slice none 0 0, .slice none 0 0, .slice none 0 0, .slice none 0 0, .slice none 0 0, .slice none 0 0]) := nb6.blk
  refine stp F (f_assign rfl) rfl rfl rfl (fun ac F => ?_)
  refine stpEnd ?_
  refine H2 _ _ ?_
  refine c_seq (fun K9 H10 => ?_)
  refine c_region ?_
  refine stp F (f_move rfl) rfl rfl rfl (fun ac F => ?_)
  refine stp F (f_build (vs := [(1, .int .u8 (mem : Int))]) (v := .agg #[.int .i64 0, .int .u8 (mem : Int)]) rfl (fun w => by kernel_rfl)) rfl rfl rfl (fun ac F => ?_)
  refine stp F (f_build (vs := [(0, .agg #[.int .i64 0, .int .u8 (mem : Int)])]) (v := .agg #[.int .i64 0, .int .u8 (mem : Int), .int .u8 0, .slice none 0 0, .slice none 0 0, .slice none 0 0, .slice none 0 0, .slice none 0 0, .slice none 0 0]) rfl (fun w => by kernel_rfl)) rfl rfl rfl (fun ac F => ?_)
  refine stpE F (f_alloc (cs := [.int .i64 0, .int .u8 0, .int .u8 0, .slice none 0 0, .slice none 0 0, .slice none 0 0, .slice none 0 0, .slice none 0 0, .slice none 0 0]) Try.zeroValue70 rfl) rfl rfl rfl ?_
  rintro _ w12 ac ⟨g11, rfl, nb14⟩ F
  have n15 := nb14.num
  have z16 := nb14.size
  have hsz := (nb14.kp).size
  replace hb5 := hb5.keep (nb14.kp) (by simp)
  replace kp0 := kp0.trans (nb14.kp) (by simp)
  have hb13 : Blk w12 g11 70 ([.int .i64 0, .int .u8 0, .int .u8 0, .slice none 0 0, .slice none 0 0, .slice none 0 0, .slice none 0 0, .slice none 0 0, .slice none 0 0]) := nb14.blk
  refine stpW F (f_store (v := .agg #[.int .i64 0, .int .u8 (mem : Int), .int .u8 0, .slice none 0 0, .slice none 0 0, .slice none 0 0, .slice none 0 0, .slice none 0 0, .slice none 0 0]) (vs := [.int .i64 0, .int .u8 (mem : Int), .int .u8 0, .slice none 0 0, .slice none 0 0, .slice none 0 0, .slice none 0 0, .slice none 0 0, .slice none 0 0]) rfl rfl hb13 Try.sizeOf70 rfl rfl (by simp) (by simp [plainV])) rfl rfl ?_
  rintro w17 ac wr18 F
  have z19 := wr18.size
  have hsz := (wr18.kp).size
  replace hb5 := hb5.keep (wr18.kp) (by have := hb5.lt; simp; omega)
  replace kp0 := kp0.trans (wr18.kp) (by intro x hx hl; simp at hx; omega)
  replace hb13 : Blk w17 g11 70 ([.int .i64 0, .int .u8 (mem : Int), .int .u8 0, .slice none 0 0, .slice none 0 0, .slice none 0 0, .slice none 0 0, .slice none 0 0, .slice none 0 0]) := wr18.blk
  refine stpEnd ?_
  refine H10 _ _ ?_
  refine c_seq (fun K20 H21 => ?_)
  refine c_seq (fun K22 H23 => ?_)
  refine c_region ?_
  refine stp F (f_fieldAddr (r := ⟨g11, 0, none⟩) (sz := 1) rfl Try.underlying70 rfl Try.sizeOf67 rfl) rfl rfl rfl (fun ac F => ?_)
  refine stp F (f_loadN (vs := #[.int .i64 0, .int .u8 (mem : Int)]) rfl Try.isAgg67 Try.sizeOf67 (hb13.rd (o := 0) rfl (by intro j u hu; exact part_at (ps := [.int .i64 0, .int .u8 (mem : Int)]) (by rfl) (by simpa [Value.cells] using hu)))) rfl rfl rfl (fun ac F => ?_)
  refine stpC F (f_call (P := Try.prog) (f := 54) (vs := [.agg #[.int .i64 0, .int .u8 (mem : Int)]]) rfl Try.call54) (vchk_c 0 mem _ hmem) rfl rfl rfl ?_
  rintro _ w24 ac ⟨e, rfl, hev, he01, kq25⟩ F
  have hsz := (kq25).size
  replace hb5 := hb5.keep (kq25) (by simp)
  replace hb13 := hb13.keep (kq25) (by simp)
  replace kp0 := kp0.trans (kq25) (by simp)
  have he0 : e = 0 := hev.2 hv
  refine stp F (f_assign rfl) rfl rfl rfl (fun ac F => ?_)
  refine stpEnd ?_
  refine H23 _ _ ?_
  refine c_seq (fun K26 H27 => ?_)
  refine c_region ?_
  refine stp F (f_move rfl) rfl rfl rfl (fun ac F => ?_)
  refine stp F (f_neq rfl rfl) rfl rfl rfl (fun ac F => ?_)
  refine stpEnd ?_
  refine H27 _ _ ?_
  have hc : e = 0 := by exact he0
  replace F := F.setb (k := 13) (b' := false) rfl (nt (decide_eq_true hc))
  refine c_false F rfl ?_
  refine wp_skip ?_
  refine H21 _ _ ?_
  refine c_seq (fun K28 H29 => ?_)
  refine c_region ?_
  refine stp F (f_loadN rfl Try.isAgg70 Try.sizeOf70 hb13.rdAll) rfl rfl rfl (fun ac F => ?_)
  refine stpW F (f_store (v := .agg #[.int .i64 0, .int .u8 (mem : Int), .int .u8 0, .slice none 0 0, .slice none 0 0, .slice none 0 0, .slice none 0 0, .slice none 0 0, .slice none 0 0]) (vs := [.int .i64 0, .int .u8 (mem : Int), .int .u8 0, .slice none 0 0, .slice none 0 0, .slice none 0 0, .slice none 0 0, .slice none 0 0, .slice none 0 0]) rfl rfl hb5 Try.sizeOf70 rfl rfl (by simp) (by simp [plainV])) rfl rfl ?_
  rintro w30 ac wr31 F
  have z32 := wr31.size
  have hsz := (wr31.kp).size
  replace hb13 := hb13.keep (wr31.kp) (by have := hb13.lt; simp; omega)
  replace kp0 := kp0.trans (wr31.kp) (by intro x hx hl; simp at hx; omega)
  replace hb5 : Blk w30 g3 70 ([.int .i64 0, .int .u8 (mem : Int), .int .u8 0, .slice none 0 0, .slice none 0 0, .slice none 0 0, .slice none 0 0, .slice none 0 0, .slice none 0 0]) := wr31.blk
  refine stp F (f_assign rfl) rfl rfl rfl (fun ac F => ?_)
  refine stpEnd ?_
  refine H29 _ _ ?_
  refine wp_ret ?_
  refine retR2 F rfl ⟨_, rfl, run_loadVarN Try.isAgg70 Try.sizeOf70 hb5.rdAll⟩ rfl ?_
  exact ⟨rfl, kp0⟩

set_option maxHeartbeats 4000000 in
theorem fclone_c (num : Int) (mem gone : Nat) (w0 : World) : Calls Try.prog 57 #[.agg #[.int .i64 num, .int .u8 (mem : Int), .int .u8 (gone : Int), .slice none 0 0, .slice none 0 0, .slice none 0 0, .slice none 0 0, .slice none 0 0, .slice none 0 0]] w0 (Ret fun v w' => v = .agg #[.int .i64 num, .int .u8 (mem : Int), .int .u8 (gone : Int), .slice none 0 0, .slice none 0 0, .slice none 0 0, .slice none 0 0, .slice none 0 0, .slice none 0 0] ∧ Kp [] w0 w') := by
  refine enter (n := 18) Try.func57 rfl rfl rfl (fun ac F => ?_)
  have kp0 := Kp.refl ([] : List Nat) w0
  refine c_seq (fun K1 H2 => ?_)
  refine c_region ?_
  refine stpE F (f_box (cs := [.int .i64 num, .int .u8 (mem : Int), .int .u8 (gone : Int), .slice none 0 0, .slice none 0 0, .slice none 0 0, .slice none 0 0, .slice none 0 0, .slice none 0 0]) rfl rfl) rfl rfl rfl ?_
  rintro _ w4 ac ⟨g3, rfl, nb6⟩ F
  have n7 := nb6.num
  have z8 := nb6.size
  have hsz := (nb6.kp).size
  replace kp0 := kp0.trans (nb6.kp) (by simp)
  have hb5 : Blk w4 g3 70 (flL num mem gone nilR) := nb6.blk
  refine stpE F (f_alloc (cs := [.int .i64 0, .int .u8 0, .int .u8 0, .slice none 0 0, .slice none 0 0, .slice none 0 0, .slice none 0 0, .slice none 0 0, .slice none 0 0]) Try.zeroValue70 rfl) rfl rfl rfl ?_
  rintro _ w10 ac ⟨g9, rfl, nb12⟩ F
  have n13 := nb12.num
  have z14 := nb12.size
  have hsz := (nb12.kp).size
  replace hb5 := hb5.keep (nb12.kp) (by simp)
  replace kp0 := kp0.trans (nb12.kp) (by simp)
  have hb11 : Blk w10 g9 70 ([.int .i64 0, .int .u8 0, .int .u8 0, .slice none 0 0, .slice none 0 0, .slice none 0 0, .slice none 0 0, .slice none 0 0, .slice none 0 0]) := nb12.blk
  refine stpEnd ?_
  refine H2 _ _ ?_
  refine c_seq (fun K15 H16 => ?_)
  refine c_seq (fun K17 H18 => ?_)
  refine c_region ?_
  refine stp F (f_fieldAddr (r := ⟨g3, 3, none⟩) (sz := 5) rfl Try.underlying70 rfl Try.sizeOf68 rfl) rfl rfl rfl (fun ac F => ?_)
  refine stp F (f_loadN rfl Try.isAgg68 Try.sizeOf68 (hb5.rd (o := 3) (v := .agg #[.slice none 0 0, .slice none 0 0, .slice none 0 0, .slice none 0 0, .slice none 0 0, .slice none 0 0]) rfl (by intro j u hu; exact part_at (ps := [.slice none 0 0, .slice none 0 0, .slice none 0 0, .slice none 0 0, .slice none 0 0, .slice none 0 0]) (by rfl) (by simpa [Value.cells] using hu)))) rfl rfl rfl (fun ac F => ?_)
  refine stp F (f_move rfl) rfl rfl rfl (fun ac F => ?_)
  refine stpEnd ?_
  refine H18 _ _ ?_
  refine wp_block ?_
  refine c_loop (fun mx ax wx => ∃ (p : Nat), Fr ax 18 [(1, .pointer (some ⟨g3, 0, none⟩)), (2, .pointer (some ⟨g9, 0, none⟩)), (6, .agg #[.slice none 0 0, .slice none 0 0, .slice none 0 0, .slice none 0 0, .slice none 0 0, .slice none 0 0]), (7, .int .i64 (p : Int))] ∧ Kp [] w0 wx ∧ Blk wx g3 70 (flL num mem gone nilR) ∧ Blk wx g9 70 ([.int .i64 0, .int .u8 0, .int .u8 0, .slice none 0 0, .slice none 0 0, .slice none 0 0, .slice none 0 0, .slice none 0 0, .slice none 0 0]) ∧ (p ≤ 6) ∧ mx = 6 - p) (6 - 0) ?_ ?_
  · exact ⟨0, F.sub ⟨rfl, rfl, rfl, rfl, trivial⟩, kp0, hb5, hb11, by omega, rfl⟩
  · clear F kp0 hb5 hb11
    rintro m20 ac wl19 ⟨p, F, kp0, hb5, hb11, hp, hm⟩
    have hsz := kp0.size
    have lt_hb5 := hb5.lt
    have lt_hb11 := hb11.lt
    refine c_seq (fun K21 H22 => ?_)
    refine c_region ?_
    refine stp F (f_lss rfl rfl) rfl rfl rfl (fun ac F => ?_)
    refine stpEnd ?_
    refine H22 _ _ ?_
    refine c_seq (fun K23 H24 => ?_)
    by_cases hc25 : (p : Int) < 6
    · have hc := hc25
      replace F := F.setb (k := 8) (b' := true) rfl (decide_eq_true hc)
      clear hc
      refine c_true F rfl ?_
      refine wp_skip ?_
      refine H24 _ _ ?_
      refine c_seq (fun K26 H27 => ?_)
      refine wp_block ?_
      refine c_seq (fun K28 H29 => ?_)
      refine c_region ?_
      refine stp F (f_move rfl) rfl rfl rfl (fun ac F => ?_)
      refine stp F (f_index1 (cs := [.slice none 0 0, .slice none 0 0, .slice none 0 0, .slice none 0 0, .slice none 0 0, .slice none 0 0]) (v := .slice none 0 0) rfl rfl Try.underlying68 Try.isAgg23 Try.sizeOf23 (by omega) (by omega) (by rcases six_of (show p < 6 by omega) with h | h | h | h | h | h <;> subst h <;> rfl)) rfl rfl rfl (fun ac F => ?_)
      refine stp F (f_assign rfl) rfl rfl rfl (fun ac F => ?_)
      refine stp F (f_assign rfl) rfl rfl rfl (fun ac F => ?_)
      refine stpEnd ?_
      refine H29 _ _ ?_
      refine c_region ?_
      refine stp F (f_move rfl) rfl rfl rfl (fun ac F => ?_)
      refine stp F (f_move rfl) rfl rfl rfl (fun ac F => ?_)
      refine stpC F (f_call (P := Try.prog) (f := 22) (vs := [.slice none 0 0]) rfl Try.call22) (iclone_c none 0 [] _ (Sl.nil _ _ _ _ _) (by decide)) rfl rfl rfl ?_
      rintro _ w30 ac ⟨A1, c1, rfl, kq31, ho1, hno1⟩ F
      have hsz := (kq31).size
      replace hb5 := hb5.keep (kq31) (by simp)
      replace hb11 := hb11.keep (kq31) (by simp)
      replace kp0 := kp0.trans (kq31) (by simp)
      obtain ⟨rfl, rfl⟩ := hno1 rfl
      refine stp F (f_fieldAddr (r := ⟨g3, 3, none⟩) (sz := 5) rfl Try.underlying70 rfl Try.sizeOf68 rfl) rfl rfl rfl (fun ac F => ?_)
      refine stp F (f_indexA (r := ⟨g3, 3 + p * 1, none⟩) rfl rfl Try.underlying68 Try.sizeOf23 (by omega) (by omega) (add_eq (by omega))) rfl rfl rfl (fun ac F => ?_)
      refine stpW F (f_store (v := .slice none 0 0) (vs := [.slice none 0 0]) rfl rfl hb5 Try.sizeOf23 rfl rfl (by rw [flL_len]; simp; omega) (by simp [plainV])) rfl rfl ?_
      rintro w32 ac wr33 F
      have z34 := wr33.size
      have hsz := (wr33.kp).size
      replace hb11 := hb11.keep (wr33.kp) (by have := hb11.lt; simp; omega)
      replace kp0 := kp0.trans (wr33.kp) (by intro x hx hl; simp at hx; omega)
      replace hb5 : Blk w32 g3 70 (flL num mem gone (upd nilR p ⟨none, 0, []⟩)) := ((wr33.blk).eqv (fl_put (p := p) (r := ⟨none, 0, []⟩) (by omega) rfl))
      refine stpEnd ?_
      refine H27 _ _ ?_
      refine c_region ?_
      refine stp F (f_add (r := ((p + 1 : Nat) : Int)) rfl rfl (by rw [IntKind.wrap_i64]; omega)) rfl rfl rfl (fun ac F => ?_)
      refine stp F (f_move rfl) rfl rfl rfl (fun ac F => ?_)
      refine stpEnd ?_
      rw [nil_upd] at hb5
      refine ⟨6 - (p + 1), ?_, (p + 1), F.sub ⟨rfl, rfl, rfl, rfl, trivial⟩, kp0, hb5, hb11, by omega, rfl⟩
      omega
    · have hc := hc25
      replace F := F.setb (k := 8) (b' := false) rfl (decide_eq_false hc)
      clear hc
      refine c_false F rfl ?_
      refine wp_exit ?_
      refine H16 _ _ ?_
      refine c_seq (fun K35 H36 => ?_)
      refine c_region ?_
      refine stp F (f_loadN rfl Try.isAgg70 Try.sizeOf70 (hb5.rd (o := 0) (v := .agg #[.int .i64 num, .int .u8 (mem : Int), .int .u8 (gone : Int), .slice none 0 0, .slice none 0 0, .slice none 0 0, .slice none 0 0, .slice none 0 0, .slice none 0 0]) rfl (by intro j u hu; exact part_at (ps := [.int .i64 num, .int .u8 (mem : Int), .int .u8 (gone : Int), .slice none 0 0, .slice none 0 0, .slice none 0 0, .slice none 0 0, .slice none 0 0, .slice none 0 0]) (by rfl) (by simpa [Value.cells] using hu)))) rfl rfl rfl (fun ac F => ?_)
      refine stpW F (f_store (v := .agg #[.int .i64 num, .int .u8 (mem : Int), .int .u8 (gone : Int), .slice none 0 0, .slice none 0 0, .slice none 0 0, .slice none 0 0, .slice none 0 0, .slice none 0 0]) (vs := [.int .i64 num, .int .u8 (mem : Int), .int .u8 (gone : Int), .slice none 0 0, .slice none 0 0, .slice none 0 0, .slice none 0 0, .slice none 0 0, .slice none 0 0]) rfl rfl hb11 Try.sizeOf70 rfl rfl (by simp) (by simp [plainV])) rfl rfl ?_
      rintro w37 ac wr38 F
      have z39 := wr38.size
      have hsz := (wr38.kp).size
      replace hb5 := hb5.keep (wr38.kp) (by have := hb5.lt; simp; omega)
      replace kp0 := kp0.trans (wr38.kp) (by intro x hx hl; simp at hx; omega)
      replace hb11 : Blk w37 g9 70 ([.int .i64 num, .int .u8 (mem : Int), .int .u8 (gone : Int), .slice none 0 0, .slice none 0 0, .slice none 0 0, .slice none 0 0, .slice none 0 0, .slice none 0 0]) := wr38.blk
      refine stpEnd ?_
      refine H36 _ _ ?_
      refine wp_ret ?_
      refine retR1 F rfl ⟨_, rfl, run_loadVarN Try.isAgg70 Try.sizeOf70 hb11.rdAll⟩ ?_
      exact ⟨rfl, kp0⟩

set_option maxHeartbeats 4000000 in
theorem tell_c (num : Int) (mem gone : Nat) (w0 : World) (hmem : mem < 256) (hgone : gone < 256) (hOk : OkF num mem gone (fun p => (nilR p).l)) (hal : uand (uandn mem gone / 2 ^ 0) 1 ≠ 0) : Calls Try.prog 30 #[.agg #[.int .i64 num, .int .u8 (mem : Int), .int .u8 (gone : Int), .slice none 0 0, .slice none 0 0, .slice none 0 0, .slice none 0 0, .slice none 0 0, .slice none 0 0], .int .i64 0, .int .i64 4] w0 (Ret fun v w' => ∃ A' c', v = .tuple #[.agg #[.int .i64 num, .int .u8 (mem : Int), .int .u8 (gone : Int), .slice A' 1 c', .slice none 0 0, .slice none 0 0, .slice none 0 0, .slice none 0 0, .slice none 0 0], .int .i64 0] ∧ Kp [] w0 w' ∧ Own w' w0.heap.size 3 1 A' c' (ivs [4])) := by
  refine enter (n := 59) Try.func30 rfl rfl rfl (fun ac F => ?_)
  have kp0 := Kp.refl ([] : List Nat) w0
  refine c_seq (fun K1 H2 => ?_)
  refine c_region ?_
  refine stpE F (f_box (cs := [.int .i64 num, .int .u8 (mem : Int), .int .u8 (gone : Int), .slice none 0 0, .slice none 0 0, .slice none 0 0, .slice none 0 0, .slice none 0 0, .slice none 0 0]) rfl rfl) rfl rfl rfl ?_
  rintro _ w4 ac ⟨g3, rfl, nb6⟩ F
  have n7 := nb6.num
  have z8 := nb6.size
  have hsz := (nb6.kp).size
  replace kp0 := kp0.trans (nb6.kp) (by simp)
  have hb5 : Blk w4 g3 70 (flL num mem gone nilR) := nb6.blk
  refine stpE F (f_alloc (cs := [.int .i64 0, .int .u8 0, .int .u8 0, .slice none 0 0, .slice none 0 0, .slice none 0 0, .slice none 0 0, .slice none 0 0, .slice none 0 0]) Try.zeroValue70 rfl) rfl rfl rfl ?_
  rintro _ w10 ac ⟨g9, rfl, nb12⟩ F
  have n13 := nb12.num
  have z14 := nb12.size
  have hsz := (nb12.kp).size
  replace hb5 := hb5.keep (nb12.kp) (by simp)
  replace kp0 := kp0.trans (nb12.kp) (by simp)
  have hb11 : Blk w10 g9 70 ([.int .i64 0, .int .u8 0, .int .u8 0, .slice none 0 0, .slice none 0 0, .slice none 0 0, .slice none 0 0, .slice none 0 0, .slice none 0 0]) := nb12.blk
  refine stp F (f_assign rfl) rfl rfl rfl (fun ac F => ?_)
  refine stpEnd ?_
  refine H2 _ _ ?_
  refine c_seq (fun K15 H16 => ?_)
  refine c_seq (fun K17 H18 => ?_)
  refine c_region ?_
  refine stp F (f_loadN rfl Try.isAgg70 Try.sizeOf70 (hb5.rd (o := 0) (v := .agg #[.int .i64 num, .int .u8 (mem : Int), .int .u8 (gone : Int), .slice none 0 0, .slice none 0 0, .slice none 0 0, .slice none 0 0, .slice none 0 0, .slice none 0 0]) rfl (by intro j u hu; exact part_at (ps := [.int .i64 num, .int .u8 (mem : Int), .int .u8 (gone : Int), .slice none 0 0, .slice none 0 0, .slice none 0 0, .slice none 0 0, .slice none 0 0, .slice none 0 0]) (by rfl) (by simpa [Value.cells] using hu)))) rfl rfl rfl (fun ac F => ?_)
  refine stpC F (f_call (P := Try.prog) (f := 35) (vs := [.agg #[.int .i64 num, .int .u8 (mem : Int), .int .u8 (gone : Int), .slice none 0 0, .slice none 0 0, .slice none 0 0, .slice none 0 0, .slice none 0 0, .slice none 0 0]]) rfl Try.call35) (chk_c num mem gone nilR _ hmem hgone (nilR_sl _)) rfl rfl rfl ?_
  rintro _ w19 ac ⟨e, rfl, hev, kq20⟩ F
  have hsz := (kq20).size
  replace hb5 := hb5.keep (kq20) (by simp)
  replace hb11 := hb11.keep (kq20) (by simp)
  replace kp0 := kp0.trans (kq20) (by simp)
  have he0 : e = 0 := hev.2 hOk
  refine stp F (f_assign rfl) rfl rfl rfl (fun ac F => ?_)
  refine stpEnd ?_
  refine H18 _ _ ?_
  refine c_seq (fun K21 H22 => ?_)
  refine c_region ?_
  refine stp F (f_move rfl) rfl rfl rfl (fun ac F => ?_)
  refine stp F (f_neq rfl rfl) rfl rfl rfl (fun ac F => ?_)
  refine stpEnd ?_
  refine H22 _ _ ?_
  have hc : e = 0 := by exact he0
  replace F := F.setb (k := 13) (b' := false) rfl (nt (decide_eq_true hc))
  refine c_false F rfl ?_
  refine wp_skip ?_
  refine H16 _ _ ?_
  refine c_seq (fun K23 H24 => ?_)
  refine wp_block ?_
  refine c_seq (fun K25 H26 => ?_)
  refine c_region ?_
  refine stp F (f_move rfl) rfl rfl rfl (fun ac F => ?_)
  refine stpC F (f_call (P := Try.prog) (f := 55) (vs := [.int .i64 0]) rfl Try.call55) (proc_c 0 _) rfl rfl rfl ?_
  rintro _ w27 ac ⟨rfl, kq28⟩ F
  have hsz := (kq28).size
  replace hb5 := hb5.keep (kq28) (by simp)
  replace hb11 := hb11.keep (kq28) (by simp)
  replace kp0 := kp0.trans (kq28) (by simp)
  refine stp F (f_not rfl) rfl rfl rfl (fun ac F => ?_)
  refine stp F (f_move rfl) rfl rfl rfl (fun ac F => ?_)
  refine stp F (f_move rfl) rfl rfl rfl (fun ac F => ?_)
  refine stpC F (f_call (P := Try.prog) (f := 56) (vs := [.int .i64 4]) rfl Try.call56) (msg_c 4 _) rfl rfl rfl ?_
  rintro _ w29 ac ⟨rfl, kq30⟩ F
  have hsz := (kq30).size
  replace hb5 := hb5.keep (kq30) (by simp)
  replace hb11 := hb11.keep (kq30) (by simp)
  replace kp0 := kp0.trans (kq30) (by simp)
  refine stp F (f_not rfl) rfl rfl rfl (fun ac F => ?_)
  refine stp F (f_pickF rfl rfl) rfl rfl rfl (fun ac F => ?_)
  refine stp F (f_assign rfl) rfl rfl rfl (fun ac F => ?_)
  refine stpEnd ?_
  refine H26 _ _ ?_
  refine c_false F rfl ?_
  refine c_seq (fun K31 H32 => ?_)
  refine c_region ?_
  refine stp F (f_fieldAddr (r := ⟨g3, 0, none⟩) (sz := 1) rfl Try.underlying70 rfl Try.sizeOf67 rfl) rfl rfl rfl (fun ac F => ?_)
  refine stp F (f_fieldAddr (r := ⟨g3, 1, none⟩) (sz := 0) rfl Try.underlying67 rfl Try.sizeOf5 rfl) rfl rfl rfl (fun ac F => ?_)
  refine stp F (f_load1 (v := .int .u8 (mem : Int)) rfl Try.isAgg5 ((hb5.cell _).trans rfl)) rfl rfl rfl (fun ac F => ?_)
  refine stp F (f_fieldAddr (r := ⟨g3, 2, none⟩) (sz := 0) rfl Try.underlying70 rfl Try.sizeOf5 rfl) rfl rfl rfl (fun ac F => ?_)
  refine stp F (f_load1 (v := .int .u8 (gone : Int)) rfl Try.isAgg5 ((hb5.cell _).trans rfl)) rfl rfl rfl (fun ac F => ?_)
  refine stp F (f_u8andn (a := mem) (b := gone) rfl rfl) rfl rfl rfl (fun ac F => ?_)
  refine stp F (f_move rfl) rfl rfl rfl (fun ac F => ?_)
  refine stp F (f_u8shr (a := (uandn mem gone)) (j := 0) (by first | omega | exact uandn_lt _ _ | exact uor_lt _ _ | exact uand_lt _ _) (by omega) rfl rfl) rfl rfl rfl (fun ac F => ?_)
  refine stp F (f_u8and (a := ((uandn mem gone) / 2 ^ 0)) (b := 1) rfl rfl) rfl rfl rfl (fun ac F => ?_)
  refine stp F (f_eql rfl rfl) rfl rfl rfl (fun ac F => ?_)
  refine stp F (f_assign rfl) rfl rfl rfl (fun ac F => ?_)
  refine stpEnd ?_
  refine H32 _ _ ?_
  have hc : ¬ (((uand ((uandn mem gone) / 2 ^ 0) 1 : Nat) : Int) = 0) := by omega
  replace F := F.setb (k := 36) (b' := false) rfl (decide_eq_false hc)
  replace F := F.setb (k := 26) (b' := false) rfl (decide_eq_false hc)
  refine c_false F rfl ?_
  refine c_seq (fun K33 H34 => ?_)
  refine c_region ?_
  refine stp F (f_move rfl) rfl rfl rfl (fun ac F => ?_)
  refine stp F (f_fieldAddr (r := ⟨g3, 3, none⟩) (sz := 5) rfl Try.underlying70 rfl Try.sizeOf68 rfl) rfl rfl rfl (fun ac F => ?_)
  refine stp F (f_indexA (r := ⟨g3, 3, none⟩) rfl rfl Try.underlying68 Try.sizeOf23 (by omega) (by omega) rfl) rfl rfl rfl (fun ac F => ?_)
  refine stp F (f_load1 (v := .slice none 0 0) rfl Try.isAgg23 ((hb5.cell _).trans rfl)) rfl rfl rfl (fun ac F => ?_)
  refine stp F (f_move rfl) rfl rfl rfl (fun ac F => ?_)
  refine stpC F (f_call (P := Try.prog) (f := 10) (vs := [.slice none 0 0, .int .i64 4]) rfl Try.call10) (contains_c none 0 0 0 0 [] 4 _ ⟨Nat.le_refl _, fun h => absurd h (by omega), fun _ h => absurd h (by omega)⟩ (by decide)) rfl rfl rfl ?_
  rintro _ w35 ac ⟨b, rfl, hb, kq36⟩ F
  have hsz := (kq36).size
  replace hb5 := hb5.keep (kq36) (by simp)
  replace hb11 := hb11.keep (kq36) (by simp)
  replace kp0 := kp0.trans (kq36) (by simp)
  refine stp F (f_assign rfl) rfl rfl rfl (fun ac F => ?_)
  refine stpEnd ?_
  refine H34 _ _ ?_
  have hc : ¬ (b = true) := by exact fun h => by obtain ⟨i, h1, _⟩ := hb.1 h; exact absurd h1 (Nat.not_lt_zero _)
  replace F := F.setb (k := 44) (b' := false) rfl (Bool.eq_false_iff.2 hc)
  replace F := F.setb (k := 38) (b' := false) rfl (Bool.eq_false_iff.2 hc)
  refine c_false F rfl ?_
  refine wp_skip ?_
  refine H24 _ _ ?_
  refine c_seq (fun K37 H38 => ?_)
  refine c_region ?_
  refine stp F (f_loadN rfl Try.isAgg70 Try.sizeOf70 (hb5.rd (o := 0) (v := .agg #[.int .i64 num, .int .u8 (mem : Int), .int .u8 (gone : Int), .slice none 0 0, .slice none 0 0, .slice none 0 0, .slice none 0 0, .slice none 0 0, .slice none 0 0]) rfl (by intro j u hu; exact part_at (ps := [.int .i64 num, .int .u8 (mem : Int), .int .u8 (gone : Int), .slice none 0 0, .slice none 0 0, .slice none 0 0, .slice none 0 0, .slice none 0 0, .slice none 0 0]) (by rfl) (by simpa [Value.cells] using hu)))) rfl rfl rfl (fun ac F => ?_)
  refine stpC F (f_call (P := Try.prog) (f := 57) (vs := [.agg #[.int .i64 num, .int .u8 (mem : Int), .int .u8 (gone : Int), .slice none 0 0, .slice none 0 0, .slice none 0 0, .slice none 0 0, .slice none 0 0, .slice none 0 0]]) rfl Try.call57) (fclone_c num mem gone _) rfl rfl rfl ?_
  rintro _ w39 ac ⟨rfl, kq40⟩ F
  have hsz := (kq40).size
  replace hb5 := hb5.keep (kq40) (by simp)
  replace hb11 := hb11.keep (kq40) (by simp)
  replace kp0 := kp0.trans (kq40) (by simp)
  refine stpE F (f_alloc (cs := [.int .i64 0, .int .u8 0, .int .u8 0, .slice none 0 0, .slice none 0 0, .slice none 0 0, .slice none 0 0, .slice none 0 0, .slice none 0 0]) Try.zeroValue70 rfl) rfl rfl rfl ?_
  rintro _ w42 ac ⟨g41, rfl, nb44⟩ F
  have n45 := nb44.num
  have z46 := nb44.size
  have hsz := (nb44.kp).size
  replace hb5 := hb5.keep (nb44.kp) (by simp)
  replace hb11 := hb11.keep (nb44.kp) (by simp)
  replace kp0 := kp0.trans (nb44.kp) (by simp)
  have hb43 : Blk w42 g41 70 (flL 0 0 0 nilR) := nb44.blk
  refine stpW F (f_store (v := .agg #[.int .i64 num, .int .u8 (mem : Int), .int .u8 (gone : Int), .slice none 0 0, .slice none 0 0, .slice none 0 0, .slice none 0 0, .slice none 0 0, .slice none 0 0]) (vs := [.int .i64 num, .int .u8 (mem : Int), .int .u8 (gone : Int), .slice none 0 0, .slice none 0 0, .slice none 0 0, .slice none 0 0, .slice none 0 0, .slice none 0 0]) rfl rfl hb43 Try.sizeOf70 rfl rfl (by rw [flL_len]; simp) (by simp [plainV])) rfl rfl ?_
  rintro w47 ac wr48 F
  have z49 := wr48.size
  have hsz := (wr48.kp).size
  replace hb5 := hb5.keep (wr48.kp) (by have := hb5.lt; simp; omega)
  replace hb11 := hb11.keep (wr48.kp) (by have := hb11.lt; simp; omega)
  replace kp0 := kp0.trans (wr48.kp) (by intro x hx hl; simp at hx; omega)
  replace hb43 : Blk w47 g41 70 (flL num mem gone nilR) := ((wr48.blk).eqv rfl)
  refine stpEnd ?_
  refine H38 _ _ ?_
  refine c_seq (fun K50 H51 => ?_)
  refine c_region ?_
  refine stp F (f_move rfl) rfl rfl rfl (fun ac F => ?_)
  refine stp F (f_move rfl) rfl rfl rfl (fun ac F => ?_)
  refine stp F (f_fieldAddr (r := ⟨g41, 3, none⟩) (sz := 5) rfl Try.underlying70 rfl Try.sizeOf68 rfl) rfl rfl rfl (fun ac F => ?_)
  refine stp F (f_indexA (r := ⟨g41, 3, none⟩) rfl rfl Try.underlying68 Try.sizeOf23 (by omega) (by omega) rfl) rfl rfl rfl (fun ac F => ?_)
  refine stp F (f_load1 (v := .slice none 0 0) rfl Try.isAgg23 ((hb43.cell _).trans rfl)) rfl rfl rfl (fun ac F => ?_)
  refine stp F (f_move rfl) rfl rfl rfl (fun ac F => ?_)
  refine stpE F (f_buildSlice (el := 3) (vs := [(0, .int .i64 4)]) (cs := [.int .i64 4]) rfl (fun w => by kernel_rfl)) rfl rfl rfl ?_
  rintro _ w53 ac ⟨g52, rfl, nb54⟩ F
  have n56 := nb54.num
  have z57 := nb54.size
  have hsz := (nb54.kp).size
  replace hb5 := hb5.keep (nb54.kp) (by simp)
  replace hb11 := hb11.keep (nb54.kp) (by simp)
  replace hb43 := hb43.keep (nb54.kp) (by simp)
  replace kp0 := kp0.trans (nb54.kp) (by simp)
  have hb55 : Blk w53 g52 3 ([.int .i64 4]) := nb54.blk
  have ho58 : Own w53 w0.heap.size 3 1 none 0 ([]) := Own.nil _ _ _ _
  have hob := ho58.base_le
  refine stpE F (f_append1 (v := .int .i64 4) (vs := []) (bytes := 8) rfl rfl Try.underlying23 (i := Try.t3) (by kernel_rfl) rfl rfl rfl rfl (by decide) ho58 hb55 rfl (by simp [Value.cells, Value.oneCell']) (by decide) (by decide) (by omega)) rfl rfl rfl ?_
  rintro _ w61 ac ⟨A59, c60, rfl, hap62, kq63, hbl⟩ F
  have z64 := kq63.size
  have hsz := (kq63).size
  replace hb5 := hb5.keep (kq63) (by simp [ob])
  replace hb11 := hb11.keep (kq63) (by simp [ob])
  replace hb43 := hb43.keep (kq63) (by simp [ob])
  replace kp0 := kp0.trans (kq63) (by simp [ob])
  replace ho58 : Own w61 w0.heap.size 3 1 A59 c60 ([] ++ [.int .i64 4]) := hap62
  have hob0 : ∀ x ∈ ob A59, w53.heap.size ≤ x := by
    rcases hbl with h | h <;> rw [h] <;> intro x hx
    · simp [ob] at hx
    · simp at hx; omega
  refine stp F (f_fieldAddr (r := ⟨g41, 3, none⟩) (sz := 5) rfl Try.underlying70 rfl Try.sizeOf68 rfl) rfl rfl rfl (fun ac F => ?_)
  refine stp F (f_indexA (r := ⟨g41, 3, none⟩) rfl rfl Try.underlying68 Try.sizeOf23 (by omega) (by omega) rfl) rfl rfl rfl (fun ac F => ?_)
  refine stpW F (f_store (v := .slice A59 1 c60) (vs := [.slice A59 1 c60]) rfl rfl hb43 Try.sizeOf23 rfl rfl (by rw [flL_len]; simp) (by simp [plainV])) rfl rfl ?_
  rintro w65 ac wr66 F
  have z67 := wr66.size
  have hsz := (wr66.kp).size
  replace hb5 := hb5.keep (wr66.kp) (by have := hb5.lt; simp; omega)
  replace hb11 := hb11.keep (wr66.kp) (by have := hb11.lt; simp; omega)
  replace ho58 := ho58.keep (wr66.kp) (by intro x hx hm; have h1 := ho58.base_le x hx; (try have h2 := hob0 x hx); (try have h3 := hob1 x hx); simp at hm; omega)
  replace kp0 := kp0.trans (wr66.kp) (by intro x hx hl; simp at hx; omega)
  replace hb43 : Blk w65 g41 70 (flL num mem gone (upd nilR 0 ⟨A59, c60, [4]⟩)) := ((wr66.blk).eqv (fl_put (p := 0) (r := ⟨A59, c60, [4]⟩) (by omega) rfl))
  refine stpEnd ?_
  refine H51 _ _ ?_
  refine c_seq (fun K68 H69 => ?_)
  refine c_region ?_
  refine stp F (f_loadN rfl Try.isAgg70 Try.sizeOf70 (hb43.rd (o := 0) (v := .agg #[.int .i64 num, .int .u8 (mem : Int), .int .u8 (gone : Int), .slice (((upd nilR 0 ⟨A59, c60, [4]⟩) 0).A) (((upd nilR 0 ⟨A59, c60, [4]⟩) 0).l.length) (((upd nilR 0 ⟨A59, c60, [4]⟩) 0).c), .slice (((upd nilR 0 ⟨A59, c60, [4]⟩) 1).A) (((upd nilR 0 ⟨A59, c60, [4]⟩) 1).l.length) (((upd nilR 0 ⟨A59, c60, [4]⟩) 1).c), .slice (((upd nilR 0 ⟨A59, c60, [4]⟩) 2).A) (((upd nilR 0 ⟨A59, c60, [4]⟩) 2).l.length) (((upd nilR 0 ⟨A59, c60, [4]⟩) 2).c), .slice (((upd nilR 0 ⟨A59, c60, [4]⟩) 3).A) (((upd nilR 0 ⟨A59, c60, [4]⟩) 3).l.length) (((upd nilR 0 ⟨A59, c60, [4]⟩) 3).c), .slice (((upd nilR 0 ⟨A59, c60, [4]⟩) 4).A) (((upd nilR 0 ⟨A59, c60, [4]⟩) 4).l.length) (((upd nilR 0 ⟨A59, c60, [4]⟩) 4).c), .slice (((upd nilR 0 ⟨A59, c60, [4]⟩) 5).A) (((upd nilR 0 ⟨A59, c60, [4]⟩) 5).l.length) (((upd nilR 0 ⟨A59, c60, [4]⟩) 5).c)]) rfl (by intro j u hu; exact part_at (ps := [.int .i64 num, .int .u8 (mem : Int), .int .u8 (gone : Int), .slice (((upd nilR 0 ⟨A59, c60, [4]⟩) 0).A) (((upd nilR 0 ⟨A59, c60, [4]⟩) 0).l.length) (((upd nilR 0 ⟨A59, c60, [4]⟩) 0).c), .slice (((upd nilR 0 ⟨A59, c60, [4]⟩) 1).A) (((upd nilR 0 ⟨A59, c60, [4]⟩) 1).l.length) (((upd nilR 0 ⟨A59, c60, [4]⟩) 1).c), .slice (((upd nilR 0 ⟨A59, c60, [4]⟩) 2).A) (((upd nilR 0 ⟨A59, c60, [4]⟩) 2).l.length) (((upd nilR 0 ⟨A59, c60, [4]⟩) 2).c), .slice (((upd nilR 0 ⟨A59, c60, [4]⟩) 3).A) (((upd nilR 0 ⟨A59, c60, [4]⟩) 3).l.length) (((upd nilR 0 ⟨A59, c60, [4]⟩) 3).c), .slice (((upd nilR 0 ⟨A59, c60, [4]⟩) 4).A) (((upd nilR 0 ⟨A59, c60, [4]⟩) 4).l.length) (((upd nilR 0 ⟨A59, c60, [4]⟩) 4).c), .slice (((upd nilR 0 ⟨A59, c60, [4]⟩) 5).A) (((upd nilR 0 ⟨A59, c60, [4]⟩) 5).l.length) (((upd nilR 0 ⟨A59, c60, [4]⟩) 5).c)]) (by rfl) (by simpa [Value.cells] using hu)))) rfl rfl rfl (fun ac F => ?_)
  refine stpW F (f_store (v := .agg #[.int .i64 num, .int .u8 (mem : Int), .int .u8 (gone : Int), .slice (((upd nilR 0 ⟨A59, c60, [4]⟩) 0).A) (((upd nilR 0 ⟨A59, c60, [4]⟩) 0).l.length) (((upd nilR 0 ⟨A59, c60, [4]⟩) 0).c), .slice (((upd nilR 0 ⟨A59, c60, [4]⟩) 1).A) (((upd nilR 0 ⟨A59, c60, [4]⟩) 1).l.length) (((upd nilR 0 ⟨A59, c60, [4]⟩) 1).c), .slice (((upd nilR 0 ⟨A59, c60, [4]⟩) 2).A) (((upd nilR 0 ⟨A59, c60, [4]⟩) 2).l.length) (((upd nilR 0 ⟨A59, c60, [4]⟩) 2).c), .slice (((upd nilR 0 ⟨A59, c60, [4]⟩) 3).A) (((upd nilR 0 ⟨A59, c60, [4]⟩) 3).l.length) (((upd nilR 0 ⟨A59, c60, [4]⟩) 3).c), .slice (((upd nilR 0 ⟨A59, c60, [4]⟩) 4).A) (((upd nilR 0 ⟨A59, c60, [4]⟩) 4).l.length) (((upd nilR 0 ⟨A59, c60, [4]⟩) 4).c), .slice (((upd nilR 0 ⟨A59, c60, [4]⟩) 5).A) (((upd nilR 0 ⟨A59, c60, [4]⟩) 5).l.length) (((upd nilR 0 ⟨A59, c60, [4]⟩) 5).c)]) (vs := [.int .i64 num, .int .u8 (mem : Int), .int .u8 (gone : Int), .slice (((upd nilR 0 ⟨A59, c60, [4]⟩) 0).A) (((upd nilR 0 ⟨A59, c60, [4]⟩) 0).l.length) (((upd nilR 0 ⟨A59, c60, [4]⟩) 0).c), .slice (((upd nilR 0 ⟨A59, c60, [4]⟩) 1).A) (((upd nilR 0 ⟨A59, c60, [4]⟩) 1).l.length) (((upd nilR 0 ⟨A59, c60, [4]⟩) 1).c), .slice (((upd nilR 0 ⟨A59, c60, [4]⟩) 2).A) (((upd nilR 0 ⟨A59, c60, [4]⟩) 2).l.length) (((upd nilR 0 ⟨A59, c60, [4]⟩) 2).c), .slice (((upd nilR 0 ⟨A59, c60, [4]⟩) 3).A) (((upd nilR 0 ⟨A59, c60, [4]⟩) 3).l.length) (((upd nilR 0 ⟨A59, c60, [4]⟩) 3).c), .slice (((upd nilR 0 ⟨A59, c60, [4]⟩) 4).A) (((upd nilR 0 ⟨A59, c60, [4]⟩) 4).l.length) (((upd nilR 0 ⟨A59, c60, [4]⟩) 4).c), .slice (((upd nilR 0 ⟨A59, c60, [4]⟩) 5).A) (((upd nilR 0 ⟨A59, c60, [4]⟩) 5).l.length) (((upd nilR 0 ⟨A59, c60, [4]⟩) 5).c)]) rfl rfl hb11 Try.sizeOf70 rfl rfl (by simp) (by simp [plainV])) rfl rfl ?_
  rintro w70 ac wr71 F
  have z72 := wr71.size
  have hsz := (wr71.kp).size
  replace hb5 := hb5.keep (wr71.kp) (by have := hb5.lt; simp; omega)
  replace hb43 := hb43.keep (wr71.kp) (by have := hb43.lt; simp; omega)
  replace ho58 := ho58.keep (wr71.kp) (by intro x hx hm; have h1 := ho58.base_le x hx; (try have h2 := hob0 x hx); (try have h3 := hob1 x hx); simp at hm; omega)
  replace kp0 := kp0.trans (wr71.kp) (by intro x hx hl; simp at hx; omega)
  replace hb11 : Blk w70 g9 70 ([.int .i64 num, .int .u8 (mem : Int), .int .u8 (gone : Int), .slice (((upd nilR 0 ⟨A59, c60, [4]⟩) 0).A) (((upd nilR 0 ⟨A59, c60, [4]⟩) 0).l.length) (((upd nilR 0 ⟨A59, c60, [4]⟩) 0).c), .slice (((upd nilR 0 ⟨A59, c60, [4]⟩) 1).A) (((upd nilR 0 ⟨A59, c60, [4]⟩) 1).l.length) (((upd nilR 0 ⟨A59, c60, [4]⟩) 1).c), .slice (((upd nilR 0 ⟨A59, c60, [4]⟩) 2).A) (((upd nilR 0 ⟨A59, c60, [4]⟩) 2).l.length) (((upd nilR 0 ⟨A59, c60, [4]⟩) 2).c), .slice (((upd nilR 0 ⟨A59, c60, [4]⟩) 3).A) (((upd nilR 0 ⟨A59, c60, [4]⟩) 3).l.length) (((upd nilR 0 ⟨A59, c60, [4]⟩) 3).c), .slice (((upd nilR 0 ⟨A59, c60, [4]⟩) 4).A) (((upd nilR 0 ⟨A59, c60, [4]⟩) 4).l.length) (((upd nilR 0 ⟨A59, c60, [4]⟩) 4).c), .slice (((upd nilR 0 ⟨A59, c60, [4]⟩) 5).A) (((upd nilR 0 ⟨A59, c60, [4]⟩) 5).l.length) (((upd nilR 0 ⟨A59, c60, [4]⟩) 5).c)]) := wr71.blk
  refine stp F (f_assign rfl) rfl rfl rfl (fun ac F => ?_)
  refine stpEnd ?_
  refine H69 _ _ ?_
  refine wp_ret ?_
  refine retR2 F rfl ⟨_, rfl, run_loadVarN Try.isAgg70 Try.sizeOf70 hb11.rdAll⟩ rfl ?_
  exact ⟨A59, c60, rfl, kp0, ho58⟩

end Go.Proofs.Ytkbngaollbmcbaa.KK

namespace Go.Proofs.Ytkbngaollbmcbaa.KK
open Go Go.RowKit

/-- Six rows of the call's own, each in a block of its own. -/
structure IRows (w : World) (base : Nat) (R : Nat → Ri) : Prop where
  own : ∀ r, r < 6 → Own w base 3 1 (R r).A (R r).c (ivs (R r).l)
  two : ∀ r q, r < 6 → q < 6 → r ≠ q → ∀ x ∈ ob (R r).A, x ∉ ob (R q).A
  bs : base ≤ w.heap.size
theorem IRows.nilr {w : World} {base : Nat} (hb : base ≤ w.heap.size) : IRows w base nilR := ⟨fun _ _ => Own.nil _ _ _ _, fun _ _ _ _ _ x hx => by simp [ob, nilR] at hx, hb⟩
theorem IRows.ge {w : World} {base r : Nat} {R : Nat → Ri} (h : IRows w base R) (hr : r < 6) {x : Nat} (hx : x ∈ ob (R r).A) : base ≤ x := ((h.own r hr).base_le x hx).1
theorem IRows.keep {w w' : World} {base : Nat} {R : Nat → Ri} {M : List Nat} (h : IRows w base R) (k : Kp M w w') (hM : ∀ y ∈ M, y < base ∨ w.heap.size ≤ y) : IRows w' base R :=
  ⟨fun r hr => (h.own r hr).keep k (fun x hx hm => by have := (h.own r hr).base_le x hx; rcases hM x hm with e | e <;> omega), h.two, Nat.le_trans h.bs k.size⟩
theorem IRows.app {w w' : World} {base r c' : Nat} {R : Nat → Ri} {A' : Option Addr} {l' : List Int} (h : IRows w base R) (hr : r < 6) (k : Kp (ob (R r).A) w w') (ho : Own w' base 3 1 A' c' (ivs l')) (hn : ob A' = ob (R r).A ∨ ob A' = [w.heap.size]) : IRows w' base (upd R r ⟨A', c', l'⟩) := by
  have hlt : ∀ q, q < 6 → ∀ y ∈ ob (R q).A, y < w.heap.size := fun q hq y hy => ((h.own q hq).base_le y hy).2
  have hn' : ∀ y ∈ ob A', y ∈ ob (R r).A ∨ w.heap.size ≤ y := fun y hy => by rcases hn with e | e <;> rw [e] at hy; exact .inl hy; simp at hy; exact .inr (by omega)
  refine ⟨fun q hq => ?_, fun q q2 hq hq2 hne y hy hy2 => ?_, Nat.le_trans h.bs k.size⟩
  · by_cases e : q = r
    · subst e; rw [upd_at0]; exact ho
    · rw [upd_off0 e]; exact (h.own q hq).keep k (h.two q r hq hr e)
  · by_cases e : q = r
    · subst e
      rw [upd_at0] at hy; rw [upd_off0 (Ne.symm hne)] at hy2
      rcases hn' y hy with h1 | h1
      · exact h.two _ _ hr hq2 hne y h1 hy2
      · have := hlt _ hq2 y hy2; omega
    · rw [upd_off0 e] at hy
      by_cases e2 : q2 = r
      · subst e2; rw [upd_at0] at hy2
        rcases hn' y hy2 with h1 | h1
        · exact h.two _ _ hq hr hne y hy h1
        · have := hlt _ hq y hy; omega
      · rw [upd_off0 e2] at hy2; exact h.two _ _ hq hq2 hne y hy hy2

/-! ### What a change tells -/
def Al (left p : Nat) : Prop := uand (left / 2 ^ p) 1 = 1
instance (left p : Nat) : Decidable (Al left p) := inferInstanceAs (Decidable (_ = _))
def AllM (left : Nat) (L : Nat → List Int) (m : Nat) : Prop := ∃ q, q < 6 ∧ Al left q ∧ (m : Int) ∈ L q
instance (left : Nat) (L : Nat → List Int) (m : Nat) : Decidable (AllM left L m) := inferInstanceAs (Decidable (∃ q, q < 6 ∧ Al left q ∧ (m : Int) ∈ L q))
def outK (left : Nat) (L : Nat → List Int) (p k : Nat) : List Int := ((List.range k).filter (fun m => decide (Al left p ∧ AllM left L m ∧ (m : Int) ∉ L p))).map Int.ofNat
theorem outK_zero {left p : Nat} {L : Nat → List Int} : outK left L p 0 = [] := rfl
theorem outK_yes {left p k : Nat} {L : Nat → List Int} (h : Al left p ∧ AllM left L k ∧ (k : Int) ∉ L p) : outK left L p (k + 1) = outK left L p k ++ [(k : Int)] := by
  unfold outK; rw [List.range_succ, List.filter_append, List.map_append]; simp [h]
theorem outK_no {left p k : Nat} {L : Nat → List Int} (h : ¬ (Al left p ∧ AllM left L k ∧ (k : Int) ∉ L p)) : outK left L p (k + 1) = outK left L p k := by
  unfold outK; rw [List.range_succ, List.filter_append, List.map_append]; simp [h]
theorem outK_len {left p k : Nat} {L : Nat → List Int} : (outK left L p k).length ≤ k := by
  unfold outK; rw [List.length_map]; exact Nat.le_trans (List.length_filter_le _ _) (by simp)
theorem mem_getD {l : List Int} {x : Int} : (∃ i, i < l.length ∧ l.getD i 0 = x) ↔ x ∈ l := by
  constructor
  · rintro ⟨i, hi, rfl⟩; simp [hi]
  · intro h
    obtain ⟨i, hi, rfl⟩ := List.mem_iff_getElem.1 h
    exact ⟨i, hi, by simp [hi]⟩
theorem mark_next {b : Nat → Bool} {m i : Nat} {l : List Int} {al : Prop} {PA : Nat → Prop} {x : Bool} (hb : ∀ k, k < 30 → (b k = true ↔ PA k ∨ (al ∧ ∃ j, j < i ∧ l.getD j 0 = (k : Int)))) (hm30 : m < 30) (hm : l.getD i 0 = (m : Int)) (hx : x = true ↔ (b m = true ∨ al)) :
    ∀ k, k < 30 → (upd b m x k = true ↔ PA k ∨ (al ∧ ∃ j, j < i + 1 ∧ l.getD j 0 = (k : Int))) := by
  intro k hk
  by_cases e : k = m
  · subst e
    rw [upd_at0, hx, hb k hk]
    constructor
    · rintro ((h | ⟨h1, j, h2, h3⟩) | h)
      · exact .inl h
      · exact .inr ⟨h1, j, by omega, h3⟩
      · exact .inr ⟨h, i, by omega, hm⟩
    · rintro (h | ⟨h1, _⟩)
      · exact .inl (.inl h)
      · exact .inr h1
  · rw [upd_off0 e, hb k hk]
    constructor
    · rintro (h | ⟨h1, j, h2, h3⟩)
      · exact .inl h
      · exact .inr ⟨h1, j, by omega, h3⟩
    · rintro (h | ⟨h1, j, h2, h3⟩)
      · exact .inl h
      · by_cases e2 : j = i
        · subst e2; rw [hm] at h3; exact absurd (by omega) e
        · exact .inr ⟨h1, j, by omega, h3⟩
theorem mark_row {b : Nat → Bool} {p left : Nat} {L : Nat → List Int} (hb : ∀ k, k < 30 → (b k = true ↔ (∃ q, q < p ∧ Al left q ∧ (k : Int) ∈ L q) ∨ (Al left p ∧ ∃ j, j < (L p).length ∧ (L p).getD j 0 = (k : Int)))) :
    ∀ k, k < 30 → (b k = true ↔ ∃ q, q < p + 1 ∧ Al left q ∧ (k : Int) ∈ L q) := by
  intro k hk
  rw [hb k hk, mem_getD]
  constructor
  · rintro (⟨q, h1, h2⟩ | ⟨h1, h2⟩)
    · exact ⟨q, by omega, h2⟩
    · exact ⟨p, by omega, h1, h2⟩
  · rintro ⟨q, h1, h2, h3⟩
    by_cases e : q = p
    · subst e; exact .inr ⟨h2, h3⟩
    · exact .inl ⟨q, by omega, h2, h3⟩
end Go.Proofs.Ytkbngaollbmcbaa.KK
