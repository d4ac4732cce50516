/- What the proof leans on: rules for a walk through the code, walks of functions, and plain laws. No condition. -/
import Derived.Test.YtkbngaollbmcbaaKa
import Derived.Test.YtkbngaollbmcbaaProg
import Derived.Test.YtkbngaollbmcbaaKb

namespace Go.Proofs.Ytkbngaollbmcbaa.KK
open Go Go.RowKit
set_option maxHeartbeats 4000000 in
theorem in_c (x lo hi : Int) (w0 : World) : Calls Try.prog 102 #[.int .i64 x, .int .i64 lo, .int .i64 hi] w0 (Ret fun v w' => v = .bool (decide (lo ≤ x ∧ x ≤ hi)) ∧ w0 = w') := by
  refine enter (n := 15) Try.func102 rfl rfl rfl (fun ac F => ?_)
  have kp0 := Kp.refl ([] : List Nat) w0
  refine c_seq (fun K1 H2 => ?_)
  refine c_region ?_
  refine stp F (f_assign rfl) rfl rfl rfl (fun ac F => ?_)
  refine stpEnd ?_
  refine H2 _ _ ?_
  refine c_seq (fun K3 H4 => ?_)
  refine c_region ?_
  refine stp F (f_move rfl) rfl rfl rfl (fun ac F => ?_)
  refine stp F (f_move rfl) rfl rfl rfl (fun ac F => ?_)
  refine stp F (f_geq rfl rfl) rfl rfl rfl (fun ac F => ?_)
  refine stp F (f_move rfl) rfl rfl rfl (fun ac F => ?_)
  by_cases hc5 : lo ≤ x
  · have hc := hc5
    replace F := F.setb (k := 9) (b' := true) rfl (decide_eq_true hc)
    replace F := F.setb (k := 10) (b' := true) rfl (decide_eq_true hc)
    clear hc
    refine stp F (f_move rfl) rfl rfl rfl (fun ac F => ?_)
    refine stp F (f_move rfl) rfl rfl rfl (fun ac F => ?_)
    refine stp F (f_leq rfl rfl) rfl rfl rfl (fun ac F => ?_)
    refine stp F (f_pickT rfl rfl) rfl rfl rfl (fun ac F => ?_)
    refine stp F (f_assign rfl) rfl rfl rfl (fun ac F => ?_)
    refine stpEnd ?_
    refine H4 _ _ ?_
    refine wp_ret ?_
    refine ret1 F rfl rfl ?_
    exact ⟨by simp [hc5], rfl⟩
  · have hc := hc5
    replace F := F.setb (k := 9) (b' := false) rfl (decide_eq_false hc)
    replace F := F.setb (k := 10) (b' := false) rfl (decide_eq_false hc)
    clear hc
    refine stpN F rfl rfl rfl (fun ac F => ?_)
    refine stpN F rfl rfl rfl (fun ac F => ?_)
    refine stpN F rfl rfl rfl (fun ac F => ?_)
    refine stp F (f_pickF rfl rfl) rfl rfl rfl (fun ac F => ?_)
    refine stp F (f_assign rfl) rfl rfl rfl (fun ac F => ?_)
    refine stpEnd ?_
    refine H4 _ _ ?_
    refine wp_ret ?_
    refine ret1 F rfl rfl ?_
    exact ⟨by simp [hc5], rfl⟩

set_option maxHeartbeats 4000000 in
theorem event_c (gc : Nat) (cs : Nat → Int) (ct : Nat → Bool) (p k m : Int) (w0 : World) (hck : Blk w0 gc 135 (ckc cs ct)) : Calls Try.prog 72 #[.pointer (some ⟨gc, 0, none⟩), .agg #[.int .i64 p, .int .i64 k, .int .i64 m]] w0 (Ret fun v w' => v = .int .i64 (evStep cs ct p k m).1 ∧ Kp [gc] w0 w' ∧ Blk w' gc 135 (ckc (evStep cs ct p k m).2.1 (evStep cs ct p k m).2.2)) := by
  refine enter (n := 85) Try.func72 rfl rfl rfl (fun ac F => ?_)
  have kp0 := Kp.refl [gc] w0
  have hgc := hck.lt
  refine c_seq (fun K1 H2 => ?_)
  refine c_region ?_
  refine stpE F (f_box (cs := [.int .i64 p, .int .i64 k, .int .i64 m]) rfl rfl) rfl rfl rfl ?_
  rintro _ w4 ac ⟨g3, rfl, nb6⟩ F
  have n7 := nb6.num
  have z8 := nb6.size
  have hsz := (nb6.kp).size
  replace hck := hck.keep (nb6.kp) (by simp)
  replace kp0 := kp0.trans (nb6.kp) (by simp)
  have hb5 : Blk w4 g3 28 ([.int .i64 p, .int .i64 k, .int .i64 m]) := nb6.blk
  refine stp F (f_assign rfl) rfl rfl rfl (fun ac F => ?_)
  refine stpEnd ?_
  refine H2 _ _ ?_
  refine c_seq (fun K9 H10 => ?_)
  refine c_seq (fun K11 H12 => ?_)
  refine c_region ?_
  refine stp F (f_fieldAddr (r := ⟨g3, 0, none⟩) (sz := 0) rfl Try.underlying28 rfl Try.sizeOf3 rfl) rfl rfl rfl (fun ac F => ?_)
  refine stp F (f_load1 (v := .int .i64 p) rfl Try.isAgg3 ((hb5.cell 0).trans rfl)) rfl rfl rfl (fun ac F => ?_)
  refine stpC F (f_call (P := Try.prog) (f := 102) (vs := [.int .i64 p, .int .i64 0, .int .i64 5]) rfl Try.call102) (in_c _ _ _ _) rfl rfl rfl ?_
  rintro _ _ ac ⟨rfl, rfl⟩ F
  refine stp F (f_not rfl) rfl rfl rfl (fun ac F => ?_)
  refine stp F (f_move rfl) rfl rfl rfl (fun ac F => ?_)
  by_cases hc13 : 0 ≤ p ∧ p ≤ 5
  · have hc := hc13
    replace F := F.setb (k := 7) (b' := true) rfl (decide_eq_true hc)
    replace F := F.setb (k := 8) (b' := false) rfl (nt (decide_eq_true hc))
    replace F := F.setb (k := 9) (b' := false) rfl (nt (decide_eq_true hc))
    clear hc
    refine stp F (f_fieldAddr (r := ⟨g3, 2, none⟩) (sz := 0) rfl Try.underlying28 rfl Try.sizeOf3 rfl) rfl rfl rfl (fun ac F => ?_)
    refine stp F (f_load1 (v := .int .i64 m) rfl Try.isAgg3 ((hb5.cell 2).trans rfl)) rfl rfl rfl (fun ac F => ?_)
    refine stpC F (f_call (P := Try.prog) (f := 102) (vs := [.int .i64 m, .int .i64 0, .int .i64 29]) rfl Try.call102) (in_c _ _ _ _) rfl rfl rfl ?_
    rintro _ _ ac ⟨rfl, rfl⟩ F
    refine stp F (f_not rfl) rfl rfl rfl (fun ac F => ?_)
    refine stp F (f_pickF rfl rfl) rfl rfl rfl (fun ac F => ?_)
    refine stpEnd ?_
    refine H12 _ _ ?_
    by_cases hc14 : 0 ≤ m ∧ m ≤ 29
    · have hc := hc14
      replace F := F.setb (k := 12) (b' := true) rfl (decide_eq_true hc)
      replace F := F.setb (k := 13) (b' := false) rfl (nt (decide_eq_true hc))
      replace F := F.setb (k := 14) (b' := false) rfl (nt (decide_eq_true hc))
      clear hc
      refine c_false F rfl ?_
      refine wp_skip ?_
      refine H10 _ _ ?_
      refine c_seq (fun K15 H16 => ?_)
      refine c_seq (fun K17 H18 => ?_)
      refine c_region ?_
      refine stp F (f_fieldAddr (r := ⟨g3, 1, none⟩) (sz := 0) rfl Try.underlying28 rfl Try.sizeOf3 rfl) rfl rfl rfl (fun ac F => ?_)
      refine stp F (f_load1 (v := .int .i64 k) rfl Try.isAgg3 ((hb5.cell 1).trans rfl)) rfl rfl rfl (fun ac F => ?_)
      refine stpEnd ?_
      refine H18 _ _ ?_
      refine wp_block ?_
      refine c_seq (fun K19 H20 => ?_)
      refine c_region ?_
      refine stp F (f_eql rfl rfl) rfl rfl rfl (fun ac F => ?_)
      refine stp F (f_assign rfl) rfl rfl rfl (fun ac F => ?_)
      refine stpEnd ?_
      refine H20 _ _ ?_
      by_cases hc21 : k = 1
      · have hc := hc21
        replace F := F.setb (k := 18) (b' := true) rfl (decide_eq_true hc)
        replace F := F.setb (k := 17) (b' := true) rfl (decide_eq_true hc)
        clear hc
        refine c_true F rfl ?_
        refine c_seq (fun K22 H23 => ?_)
        refine c_region ?_
        refine stp F (f_fieldAddr (r := ⟨g3, 2, none⟩) (sz := 0) rfl Try.underlying28 rfl Try.sizeOf3 rfl) rfl rfl rfl (fun ac F => ?_)
        refine stp F (f_load1 (v := .int .i64 m) rfl Try.isAgg3 ((hb5.cell 2).trans rfl)) rfl rfl rfl (fun ac F => ?_)
        refine stp F (f_neq rfl rfl) rfl rfl rfl (fun ac F => ?_)
        refine stpEnd ?_
        refine H23 _ _ ?_
        by_cases hc24 : m = 0
        · have hc := hc24
          replace F := F.setb (k := 21) (b' := false) rfl (nt (decide_eq_true hc))
          clear hc
          refine c_false F rfl ?_
          refine wp_skip ?_
          refine H16 _ _ ?_
          refine c_seq (fun K25 H26 => ?_)
          refine c_region ?_
          refine stp F (f_assign rfl) rfl rfl rfl (fun ac F => ?_)
          refine stpEnd ?_
          refine H26 _ _ ?_
          refine wp_ret ?_
          refine ret1 F rfl rfl ?_
          exact ⟨by simp [evStep, hc13, hc14, hc21, hc24], kp0, by simpa [evStep, hc13, hc14, hc21, hc24] using hck⟩
        · have hc := hc24
          replace F := F.setb (k := 21) (b' := true) rfl (nf (decide_eq_false hc))
          clear hc
          refine c_true F rfl ?_
          refine c_seq (fun K27 H28 => ?_)
          refine c_region ?_
          refine stp F (f_assign rfl) rfl rfl rfl (fun ac F => ?_)
          refine stpEnd ?_
          refine H28 _ _ ?_
          refine wp_ret ?_
          refine ret1 F rfl rfl ?_
          exact ⟨by simp [evStep, hc13, hc14, hc21, hc24], kp0, by simpa [evStep, hc13, hc14, hc21, hc24] using hck⟩
      · have hc := hc21
        replace F := F.setb (k := 18) (b' := false) rfl (decide_eq_false hc)
        replace F := F.setb (k := 17) (b' := false) rfl (decide_eq_false hc)
        clear hc
        refine c_false F rfl ?_
        refine c_seq (fun K29 H30 => ?_)
        refine c_region ?_
        refine stp F (f_eql rfl rfl) rfl rfl rfl (fun ac F => ?_)
        refine stp F (f_assign rfl) rfl rfl rfl (fun ac F => ?_)
        refine stpEnd ?_
        refine H30 _ _ ?_
        by_cases hc31 : k = 2
        · have hc := hc31
          replace F := F.setb (k := 23) (b' := true) rfl (decide_eq_true hc)
          replace F := F.setb (k := 22) (b' := true) rfl (decide_eq_true hc)
          clear hc
          refine c_true F rfl ?_
          refine c_seq (fun K32 H33 => ?_)
          refine c_seq (fun K34 H35 => ?_)
          refine c_draw 8 (by rfl) (by decide +kernel) (fun wx => Kp [] w4 wx) (Kp.drew _) ?_
          refine tP F rfl (fun wq => f_move rfl) rfl rfl rfl (fun ac F => ?_)
          refine tP F rfl (fun wq => f_fieldAddr (r := ⟨g3, 2, none⟩) (sz := 0) rfl Try.underlying28 rfl Try.sizeOf3 rfl) rfl rfl rfl (fun ac F => ?_)
          refine tQ F rfl (fun wq hq => f_load1 (v := .int .i64 m) rfl Try.isAgg3 (((hb5.keep hq (by simp)).cell 2).trans rfl)) rfl rfl rfl (fun ac F => ?_)
          refine tP F rfl (fun wq => f_nilCheck rfl) rfl rfl rfl (fun ac F => ?_)
          refine tP F rfl (fun wq => f_fieldAddr (r := ⟨gc, 0, none⟩) (sz := 29) rfl Try.underlying135 rfl Try.sizeOf96 rfl) rfl rfl rfl (fun ac F => ?_)
          refine tP F rfl (fun wq => f_indexA (r := ⟨gc, m.toNat * 1, none⟩) rfl rfl Try.underlying96 Try.sizeOf3 (by omega) (by omega) (add_eq (by omega))) rfl rfl rfl (fun ac F => ?_)
          refine tQ F rfl (fun wq hq => f_load1 (v := .int .i64 (cs m.toNat)) rfl Try.isAgg3 (((hck.keep hq (by simp)).cell _).trans (ckc_s (by omega)))) rfl rfl rfl (fun ac F => ?_)
          refine tP F rfl (fun wq => f_gtr rfl rfl) rfl rfl rfl (fun ac F => ?_)
          refine tEnd (fun w36 hq => ?_)
          have hsz := hq.size
          replace hck := hck.keep hq (by simp)
          replace hb5 := hb5.keep hq (by simp)
          replace kp0 := kp0.trans hq (by simp)
          refine H35 _ _ ?_
          by_cases hc37 : 0 < cs m.toNat
          · have hc := hc37
            replace F := F.setb (k := 31) (b' := true) rfl (decide_eq_true hc)
            clear hc
            refine c_true F rfl ?_
            refine c_seq (fun K38 H39 => ?_)
            refine c_region ?_
            refine stp F (f_assign rfl) rfl rfl rfl (fun ac F => ?_)
            refine stpEnd ?_
            refine H39 _ _ ?_
            refine wp_ret ?_
            refine ret1 F rfl rfl ?_
            exact ⟨by simp [evStep, hc13, hc14, hc21, hc31, hc37], kp0, by simpa [evStep, hc13, hc14, hc21, hc31, hc37] using hck⟩
          · have hc := hc37
            replace F := F.setb (k := 31) (b' := false) rfl (decide_eq_false hc)
            clear hc
            refine c_false F rfl ?_
            refine wp_skip ?_
            refine H33 _ _ ?_
            refine c_draw 10 (by rfl) (by decide +kernel) (fun wx => Kp [] w36 wx) (Kp.drew _) ?_
            refine tP F rfl (fun wq => f_move rfl) rfl rfl rfl (fun ac F => ?_)
            refine tP F rfl (fun wq => f_fieldAddr (r := ⟨g3, 2, none⟩) (sz := 0) rfl Try.underlying28 rfl Try.sizeOf3 rfl) rfl rfl rfl (fun ac F => ?_)
            refine tQ F rfl (fun wq hq => f_load1 (v := .int .i64 m) rfl Try.isAgg3 (((hb5.keep hq (by simp)).cell 2).trans rfl)) rfl rfl rfl (fun ac F => ?_)
            refine tP F rfl (fun wq => f_fieldAddr (r := ⟨g3, 0, none⟩) (sz := 0) rfl Try.underlying28 rfl Try.sizeOf3 rfl) rfl rfl rfl (fun ac F => ?_)
            refine tQ F rfl (fun wq hq => f_load1 (v := .int .i64 p) rfl Try.isAgg3 (((hb5.keep hq (by simp)).cell 0).trans rfl)) rfl rfl rfl (fun ac F => ?_)
            refine tP F rfl (fun wq => f_add (r := p + 1) rfl rfl (by rw [IntKind.wrap_i64]; omega)) rfl rfl rfl (fun ac F => ?_)
            refine tP F rfl (fun wq => f_nilCheck rfl) rfl rfl rfl (fun ac F => ?_)
            refine tP F rfl (fun wq => f_fieldAddr (r := ⟨gc, 0, none⟩) (sz := 29) rfl Try.underlying135 rfl Try.sizeOf96 rfl) rfl rfl rfl (fun ac F => ?_)
            refine tP F rfl (fun wq => f_indexA (r := ⟨gc, m.toNat * 1, none⟩) rfl rfl Try.underlying96 Try.sizeOf3 (by omega) (by omega) (add_eq (by omega))) rfl rfl rfl (fun ac F => ?_)
            refine tW (C' := (fun wx => Kp [gc] w36 wx ∧ Blk wx gc 135 (ckc (upd cs m.toNat (p + 1)) ct))) F rfl (fun wq hq => FiresW.mono (f_store (v := .int .i64 (p + 1)) (vs := [.int .i64 (p + 1)]) rfl rfl (hck.keep hq (by simp)) Try.sizeOf3 rfl rfl (ckc_lt_s (i := m.toNat) (by omega)) (by simp [plainV])) (fun wx h2 => ⟨(hq.mono (M' := [gc]) (by simp)).trans h2.kp (by intro x hx _; exact hx), (by have hx_ := h2.blk; rw [ckc_put_s (i := m.toNat) (by omega)] at hx_; exact hx_)⟩)) rfl rfl (fun ac F => ?_)
            refine tEnd (fun w42 hq => ?_)
            obtain ⟨hq, hn⟩ := hq
            have hsz := hq.size
            replace hb5 := hb5.keep hq (by have := hb5.lt; simp; omega)
            replace kp0 := kp0.trans hq (by intro x hx hl; simp at hx ⊢; omega)
            replace hck : Blk w42 gc 135 (ckc (upd cs m.toNat (p + 1)) ct) := hn
            refine H16 _ _ ?_
            refine c_seq (fun K43 H44 => ?_)
            refine c_region ?_
            refine stp F (f_assign rfl) rfl rfl rfl (fun ac F => ?_)
            refine stpEnd ?_
            refine H44 _ _ ?_
            refine wp_ret ?_
            refine ret1 F rfl rfl ?_
            exact ⟨by simp [evStep, hc13, hc14, hc21, hc31, hc37], kp0, by simpa [evStep, hc13, hc14, hc21, hc31, hc37] using hck⟩
        · have hc := hc31
          replace F := F.setb (k := 23) (b' := false) rfl (decide_eq_false hc)
          replace F := F.setb (k := 22) (b' := false) rfl (decide_eq_false hc)
          clear hc
          refine c_false F rfl ?_
          refine c_seq (fun K45 H46 => ?_)
          refine c_region ?_
          refine stp F (f_eql rfl rfl) rfl rfl rfl (fun ac F => ?_)
          refine stp F (f_assign rfl) rfl rfl rfl (fun ac F => ?_)
          refine stpEnd ?_
          refine H46 _ _ ?_
          by_cases hc47 : k = 3
          · have hc := hc47
            replace F := F.setb (k := 42) (b' := true) rfl (decide_eq_true hc)
            replace F := F.setb (k := 41) (b' := true) rfl (decide_eq_true hc)
            clear hc
            refine c_true F rfl ?_
            refine c_seq (fun K48 H49 => ?_)
            refine c_seq (fun K50 H51 => ?_)
            refine c_draw 33 (by rfl) (by decide +kernel) (fun wx => Kp [] w4 wx) (Kp.drew _) ?_
            refine tP F rfl (fun wq => f_move rfl) rfl rfl rfl (fun ac F => ?_)
            refine tP F rfl (fun wq => f_fieldAddr (r := ⟨g3, 2, none⟩) (sz := 0) rfl Try.underlying28 rfl Try.sizeOf3 rfl) rfl rfl rfl (fun ac F => ?_)
            refine tQ F rfl (fun wq hq => f_load1 (v := .int .i64 m) rfl Try.isAgg3 (((hb5.keep hq (by simp)).cell 2).trans rfl)) rfl rfl rfl (fun ac F => ?_)
            refine tP F rfl (fun wq => f_nilCheck rfl) rfl rfl rfl (fun ac F => ?_)
            refine tP F rfl (fun wq => f_fieldAddr (r := ⟨gc, 0, none⟩) (sz := 29) rfl Try.underlying135 rfl Try.sizeOf96 rfl) rfl rfl rfl (fun ac F => ?_)
            refine tP F rfl (fun wq => f_indexA (r := ⟨gc, m.toNat * 1, none⟩) rfl rfl Try.underlying96 Try.sizeOf3 (by omega) (by omega) (add_eq (by omega))) rfl rfl rfl (fun ac F => ?_)
            refine tQ F rfl (fun wq hq => f_load1 (v := .int .i64 (cs m.toNat)) rfl Try.isAgg3 (((hck.keep hq (by simp)).cell _).trans (ckc_s (by omega)))) rfl rfl rfl (fun ac F => ?_)
            refine tP F rfl (fun wq => f_eql rfl rfl) rfl rfl rfl (fun ac F => ?_)
            refine tP F rfl (fun wq => f_move rfl) rfl rfl rfl (fun ac F => ?_)
            by_cases hc52 : cs m.toNat = 0
            · have hc := hc52
              replace F := F.setb (k := 50) (b' := true) rfl (decide_eq_true hc)
              replace F := F.setb (k := 51) (b' := true) rfl (decide_eq_true hc)
              clear hc
              refine tN F rfl rfl rfl (fun ac F => ?_)
              refine tN F rfl rfl rfl (fun ac F => ?_)
              refine tN F rfl rfl rfl (fun ac F => ?_)
              refine tN F rfl rfl rfl (fun ac F => ?_)
              refine tN F rfl rfl rfl (fun ac F => ?_)
              refine tN F rfl rfl rfl (fun ac F => ?_)
              refine tN F rfl rfl rfl (fun ac F => ?_)
              refine tN F rfl rfl rfl (fun ac F => ?_)
              refine tN F rfl rfl rfl (fun ac F => ?_)
              refine tN F rfl rfl rfl (fun ac F => ?_)
              refine tN F rfl rfl rfl (fun ac F => ?_)
              refine tP F rfl (fun wq => f_pickT rfl rfl) rfl rfl rfl (fun ac F => ?_)
              refine tP F rfl (fun wq => f_move rfl) rfl rfl rfl (fun ac F => ?_)
              refine tN F rfl rfl rfl (fun ac F => ?_)
              refine tN F rfl rfl rfl (fun ac F => ?_)
              refine tN F rfl rfl rfl (fun ac F => ?_)
              refine tN F rfl rfl rfl (fun ac F => ?_)
              refine tN F rfl rfl rfl (fun ac F => ?_)
              refine tN F rfl rfl rfl (fun ac F => ?_)
              refine tN F rfl rfl rfl (fun ac F => ?_)
              refine tN F rfl rfl rfl (fun ac F => ?_)
              refine tN F rfl rfl rfl (fun ac F => ?_)
              refine tN F rfl rfl rfl (fun ac F => ?_)
              refine tP F rfl (fun wq => f_pickT rfl rfl) rfl rfl rfl (fun ac F => ?_)
              refine tEnd (fun w53 hq => ?_)
              have hsz := hq.size
              replace hck := hck.keep hq (by simp)
              replace hb5 := hb5.keep hq (by simp)
              replace kp0 := kp0.trans hq (by simp)
              refine H51 _ _ ?_
              refine c_true F rfl ?_
              refine c_seq (fun K54 H55 => ?_)
              refine c_region ?_
              refine stp F (f_assign rfl) rfl rfl rfl (fun ac F => ?_)
              refine stpEnd ?_
              refine H55 _ _ ?_
              refine wp_ret ?_
              refine ret1 F rfl rfl ?_
              exact ⟨by simp [evStep, hc13, hc14, hc21, hc31, hc47, hc52], kp0, by simpa [evStep, hc13, hc14, hc21, hc31, hc47, hc52] using hck⟩
            · have hc := hc52
              replace F := F.setb (k := 50) (b' := false) rfl (decide_eq_false hc)
              replace F := F.setb (k := 51) (b' := false) rfl (decide_eq_false hc)
              clear hc
              refine tP F rfl (fun wq => f_move rfl) rfl rfl rfl (fun ac F => ?_)
              refine tP F rfl (fun wq => f_fieldAddr (r := ⟨g3, 2, none⟩) (sz := 0) rfl Try.underlying28 rfl Try.sizeOf3 rfl) rfl rfl rfl (fun ac F => ?_)
              refine tQ F rfl (fun wq hq => f_load1 (v := .int .i64 m) rfl Try.isAgg3 (((hb5.keep hq (by simp)).cell 2).trans rfl)) rfl rfl rfl (fun ac F => ?_)
              refine tP F rfl (fun wq => f_nilCheck rfl) rfl rfl rfl (fun ac F => ?_)
              refine tP F rfl (fun wq => f_fieldAddr (r := ⟨gc, 0, none⟩) (sz := 29) rfl Try.underlying135 rfl Try.sizeOf96 rfl) rfl rfl rfl (fun ac F => ?_)
              refine tP F rfl (fun wq => f_indexA (r := ⟨gc, m.toNat * 1, none⟩) rfl rfl Try.underlying96 Try.sizeOf3 (by omega) (by omega) (add_eq (by omega))) rfl rfl rfl (fun ac F => ?_)
              refine tQ F rfl (fun wq hq => f_load1 (v := .int .i64 (cs m.toNat)) rfl Try.isAgg3 (((hck.keep hq (by simp)).cell _).trans (ckc_s (by omega)))) rfl rfl rfl (fun ac F => ?_)
              refine tP F rfl (fun wq => f_fieldAddr (r := ⟨g3, 0, none⟩) (sz := 0) rfl Try.underlying28 rfl Try.sizeOf3 rfl) rfl rfl rfl (fun ac F => ?_)
              refine tQ F rfl (fun wq hq => f_load1 (v := .int .i64 p) rfl Try.isAgg3 (((hb5.keep hq (by simp)).cell 0).trans rfl)) rfl rfl rfl (fun ac F => ?_)
              refine tP F rfl (fun wq => f_add (r := p + 1) rfl rfl (by rw [IntKind.wrap_i64]; omega)) rfl rfl rfl (fun ac F => ?_)
              refine tP F rfl (fun wq => f_eql rfl rfl) rfl rfl rfl (fun ac F => ?_)
              refine tP F rfl (fun wq => f_pickF rfl rfl) rfl rfl rfl (fun ac F => ?_)
              refine tP F rfl (fun wq => f_move rfl) rfl rfl rfl (fun ac F => ?_)
              by_cases hc56 : cs m.toNat = p + 1
              · have hc := hc56
                replace F := F.setb (k := 62) (b' := true) rfl (decide_eq_true hc)
                replace F := F.setb (k := 63) (b' := true) rfl (decide_eq_true hc)
                replace F := F.setb (k := 64) (b' := true) rfl (decide_eq_true hc)
                clear hc
                refine tN F rfl rfl rfl (fun ac F => ?_)
                refine tN F rfl rfl rfl (fun ac F => ?_)
                refine tN F rfl rfl rfl (fun ac F => ?_)
                refine tN F rfl rfl rfl (fun ac F => ?_)
                refine tN F rfl rfl rfl (fun ac F => ?_)
                refine tN F rfl rfl rfl (fun ac F => ?_)
                refine tN F rfl rfl rfl (fun ac F => ?_)
                refine tN F rfl rfl rfl (fun ac F => ?_)
                refine tN F rfl rfl rfl (fun ac F => ?_)
                refine tN F rfl rfl rfl (fun ac F => ?_)
                refine tP F rfl (fun wq => f_pickT rfl rfl) rfl rfl rfl (fun ac F => ?_)
                refine tEnd (fun w57 hq => ?_)
                have hsz := hq.size
                replace hck := hck.keep hq (by simp)
                replace hb5 := hb5.keep hq (by simp)
                replace kp0 := kp0.trans hq (by simp)
                refine H51 _ _ ?_
                refine c_true F rfl ?_
                refine c_seq (fun K58 H59 => ?_)
                refine c_region ?_
                refine stp F (f_assign rfl) rfl rfl rfl (fun ac F => ?_)
                refine stpEnd ?_
                refine H59 _ _ ?_
                refine wp_ret ?_
                refine ret1 F rfl rfl ?_
                exact ⟨by simp [evStep, hc13, hc14, hc21, hc31, hc47, hc52, hc56], kp0, by simpa [evStep, hc13, hc14, hc21, hc31, hc47, hc52, hc56] using hck⟩
              · have hc := hc56
                replace F := F.setb (k := 62) (b' := false) rfl (decide_eq_false hc)
                replace F := F.setb (k := 63) (b' := false) rfl (decide_eq_false hc)
                replace F := F.setb (k := 64) (b' := false) rfl (decide_eq_false hc)
                clear hc
                refine tP F rfl (fun wq => f_move rfl) rfl rfl rfl (fun ac F => ?_)
                refine tP F rfl (fun wq => f_fieldAddr (r := ⟨g3, 2, none⟩) (sz := 0) rfl Try.underlying28 rfl Try.sizeOf3 rfl) rfl rfl rfl (fun ac F => ?_)
                refine tQ F rfl (fun wq hq => f_load1 (v := .int .i64 m) rfl Try.isAgg3 (((hb5.keep hq (by simp)).cell 2).trans rfl)) rfl rfl rfl (fun ac F => ?_)
                refine tP F rfl (fun wq => f_fieldAddr (r := ⟨g3, 0, none⟩) (sz := 0) rfl Try.underlying28 rfl Try.sizeOf3 rfl) rfl rfl rfl (fun ac F => ?_)
                refine tQ F rfl (fun wq hq => f_load1 (v := .int .i64 p) rfl Try.isAgg3 (((hb5.keep hq (by simp)).cell 0).trans rfl)) rfl rfl rfl (fun ac F => ?_)
                refine tP F rfl (fun wq => f_nilCheck rfl) rfl rfl rfl (fun ac F => ?_)
                refine tP F rfl (fun wq => f_fieldAddr (r := ⟨gc, 30, none⟩) (sz := 179) rfl Try.underlying135 rfl Try.sizeOf133 rfl) rfl rfl rfl (fun ac F => ?_)
                refine tP F rfl (fun wq => f_indexA (r := ⟨gc, 30 + m.toNat * 6, none⟩) rfl rfl Try.underlying133 Try.sizeOf132 (by omega) (by omega) (add_eq (by omega))) rfl rfl rfl (fun ac F => ?_)
                refine tP F rfl (fun wq => f_indexA (r := ⟨gc, 30 + m.toNat * 6 + p.toNat * 1, none⟩) rfl rfl Try.underlying132 Try.sizeOf4 (by omega) (by omega) (add_eq (by omega))) rfl rfl rfl (fun ac F => ?_)
                refine tQ F rfl (fun wq hq => f_load1 (v := .bool (ct (m.toNat * 6 + p.toNat))) rfl Try.isAgg4 (((hck.keep hq (by simp)).cell _).trans (ckc_t (by omega) (by omega)))) rfl rfl rfl (fun ac F => ?_)
                refine tP F rfl (fun wq => f_pickF rfl rfl) rfl rfl rfl (fun ac F => ?_)
                refine tEnd (fun w60 hq => ?_)
                have hsz := hq.size
                replace hck := hck.keep hq (by simp)
                replace hb5 := hb5.keep hq (by simp)
                replace kp0 := kp0.trans hq (by simp)
                refine H51 _ _ ?_
                by_cases hc61 : ct (m.toNat * 6 + p.toNat) = true
                · have hc := hc61
                  replace F := F.setb (k := 74) (b' := true) rfl (hc)
                  replace F := F.setb (k := 75) (b' := true) rfl (hc)
                  clear hc
                  refine c_true F rfl ?_
                  refine c_seq (fun K62 H63 => ?_)
                  refine c_region ?_
                  refine stp F (f_assign rfl) rfl rfl rfl (fun ac F => ?_)
                  refine stpEnd ?_
                  refine H63 _ _ ?_
                  refine wp_ret ?_
                  refine ret1 F rfl rfl ?_
                  exact ⟨by simp [evStep, hc13, hc14, hc21, hc31, hc47, hc52, hc56, hc61], kp0, by simpa [evStep, hc13, hc14, hc21, hc31, hc47, hc52, hc56, hc61] using hck⟩
                · have hc := hc61
                  replace F := F.setb (k := 74) (b' := false) rfl (Bool.eq_false_iff.2 hc)
                  replace F := F.setb (k := 75) (b' := false) rfl (Bool.eq_false_iff.2 hc)
                  clear hc
                  refine c_false F rfl ?_
                  refine wp_skip ?_
                  refine H49 _ _ ?_
                  refine c_draw 10 (by rfl) (by decide +kernel) (fun wx => Kp [] w60 wx) (Kp.drew _) ?_
                  refine tP F rfl (fun wq => f_move rfl) rfl rfl rfl (fun ac F => ?_)
                  refine tP F rfl (fun wq => f_fieldAddr (r := ⟨g3, 2, none⟩) (sz := 0) rfl Try.underlying28 rfl Try.sizeOf3 rfl) rfl rfl rfl (fun ac F => ?_)
                  refine tQ F rfl (fun wq hq => f_load1 (v := .int .i64 m) rfl Try.isAgg3 (((hb5.keep hq (by simp)).cell 2).trans rfl)) rfl rfl rfl (fun ac F => ?_)
                  refine tP F rfl (fun wq => f_fieldAddr (r := ⟨g3, 0, none⟩) (sz := 0) rfl Try.underlying28 rfl Try.sizeOf3 rfl) rfl rfl rfl (fun ac F => ?_)
                  refine tQ F rfl (fun wq hq => f_load1 (v := .int .i64 p) rfl Try.isAgg3 (((hb5.keep hq (by simp)).cell 0).trans rfl)) rfl rfl rfl (fun ac F => ?_)
                  refine tP F rfl (fun wq => f_nilCheck rfl) rfl rfl rfl (fun ac F => ?_)
                  refine tP F rfl (fun wq => f_fieldAddr (r := ⟨gc, 30, none⟩) (sz := 179) rfl Try.underlying135 rfl Try.sizeOf133 rfl) rfl rfl rfl (fun ac F => ?_)
                  refine tP F rfl (fun wq => f_indexA (r := ⟨gc, 30 + m.toNat * 6, none⟩) rfl rfl Try.underlying133 Try.sizeOf132 (by omega) (by omega) (add_eq (by omega))) rfl rfl rfl (fun ac F => ?_)
                  refine tP F rfl (fun wq => f_indexA (r := ⟨gc, 30 + m.toNat * 6 + p.toNat * 1, none⟩) rfl rfl Try.underlying132 Try.sizeOf4 (by omega) (by omega) (add_eq (by omega))) rfl rfl rfl (fun ac F => ?_)
                  refine tW (C' := (fun wx => Kp [gc] w60 wx ∧ Blk wx gc 135 (ckc cs (upd ct (m.toNat * 6 + p.toNat) true)))) F rfl (fun wq hq => FiresW.mono (f_store (v := .bool true) (vs := [.bool true]) rfl rfl (hck.keep hq (by simp)) Try.sizeOf4 rfl rfl (ckc_lt_t (i := m.toNat) (j := p.toNat) (by omega) (by omega)) (by simp [plainV])) (fun wx h2 => ⟨(hq.mono (M' := [gc]) (by simp)).trans h2.kp (by intro x hx _; exact hx), (by have hx_ := h2.blk; rw [ckc_put_t (i := m.toNat) (j := p.toNat) (by omega) (by omega)] at hx_; exact hx_)⟩)) rfl rfl (fun ac F => ?_)
                  refine tEnd (fun w66 hq => ?_)
                  obtain ⟨hq, hn⟩ := hq
                  have hsz := hq.size
                  replace hb5 := hb5.keep hq (by have := hb5.lt; simp; omega)
                  replace kp0 := kp0.trans hq (by intro x hx hl; simp at hx ⊢; omega)
                  replace hck : Blk w66 gc 135 (ckc cs (upd ct (m.toNat * 6 + p.toNat) true)) := hn
                  refine H16 _ _ ?_
                  refine c_seq (fun K67 H68 => ?_)
                  refine c_region ?_
                  refine stp F (f_assign rfl) rfl rfl rfl (fun ac F => ?_)
                  refine stpEnd ?_
                  refine H68 _ _ ?_
                  refine wp_ret ?_
                  refine ret1 F rfl rfl ?_
                  exact ⟨by simp [evStep, hc13, hc14, hc21, hc31, hc47, hc52, hc56, hc61], kp0, by simpa [evStep, hc13, hc14, hc21, hc31, hc47, hc52, hc56, hc61] using hck⟩
          · have hc := hc47
            replace F := F.setb (k := 42) (b' := false) rfl (decide_eq_false hc)
            replace F := F.setb (k := 41) (b' := false) rfl (decide_eq_false hc)
            clear hc
            refine c_false F rfl ?_
            refine c_seq (fun K69 H70 => ?_)
            refine c_region ?_
            refine stp F (f_assign rfl) rfl rfl rfl (fun ac F => ?_)
            refine stpEnd ?_
            refine H70 _ _ ?_
            refine wp_ret ?_
            refine ret1 F rfl rfl ?_
            exact ⟨by simp [evStep, hc13, hc14, hc21, hc31, hc47], kp0, by simpa [evStep, hc13, hc14, hc21, hc31, hc47] using hck⟩
    · have hc := hc14
      replace F := F.setb (k := 12) (b' := false) rfl (decide_eq_false hc)
      replace F := F.setb (k := 13) (b' := true) rfl (nf (decide_eq_false hc))
      replace F := F.setb (k := 14) (b' := true) rfl (nf (decide_eq_false hc))
      clear hc
      refine c_true F rfl ?_
      refine c_seq (fun K71 H72 => ?_)
      refine c_region ?_
      refine stp F (f_assign rfl) rfl rfl rfl (fun ac F => ?_)
      refine stpEnd ?_
      refine H72 _ _ ?_
      refine wp_ret ?_
      refine ret1 F rfl rfl ?_
      exact ⟨by simp [evStep, hc13, hc14], kp0, by simpa [evStep, hc13, hc14] using hck⟩
  · have hc := hc13
    replace F := F.setb (k := 7) (b' := false) rfl (decide_eq_false hc)
    replace F := F.setb (k := 8) (b' := true) rfl (nf (decide_eq_false hc))
    replace F := F.setb (k := 9) (b' := true) rfl (nf (decide_eq_false hc))
    clear hc
    refine stpN F rfl rfl rfl (fun ac F => ?_)
    refine stpN F rfl rfl rfl (fun ac F => ?_)
    refine stpN F rfl rfl rfl (fun ac F => ?_)
    refine stpN F rfl rfl rfl (fun ac F => ?_)
    refine stp F (f_pickT rfl rfl) rfl rfl rfl (fun ac F => ?_)
    refine stpEnd ?_
    refine H12 _ _ ?_
    refine c_true F rfl ?_
    refine c_seq (fun K73 H74 => ?_)
    refine c_region ?_
    refine stp F (f_assign rfl) rfl rfl rfl (fun ac F => ?_)
    refine stpEnd ?_
    refine H74 _ _ ?_
    refine wp_ret ?_
    refine ret1 F rfl rfl ?_
    exact ⟨by simp [evStep, hc13], kp0, by simpa [evStep, hc13] using hck⟩

set_option maxHeartbeats 4000000 in
theorem check_c (A : Option Addr) (c : Nat) (h : List Ev) (w0 : World) (hh : Sl w0 0 w0.heap.size 3 A h.length c (evv h)) : Calls Try.prog 44 #[.slice A h.length c] w0 (Ret fun v w' => v = .int .i64 (checkF h) ∧ Kp [] w0 w') := by
  refine enter (n := 25) Try.func44 rfl rfl rfl (fun ac F => ?_)
  have kp0 := Kp.refl ([] : List Nat) w0
  refine c_seq (fun K1 H2 => ?_)
  refine c_region ?_
  refine stp F (f_assign rfl) rfl rfl rfl (fun ac F => ?_)
  refine stpEnd ?_
  refine H2 _ _ ?_
  refine c_seq (fun K3 H4 => ?_)
  refine c_seq (fun K5 H6 => ?_)
  refine c_region ?_
  refine stp F (f_move rfl) rfl rfl rfl (fun ac F => ?_)
  refine stp F (f_len rfl Try.underlying22) rfl rfl rfl (fun ac F => ?_)
  refine stp F (f_gtr rfl rfl) rfl rfl rfl (fun ac F => ?_)
  refine stpEnd ?_
  refine H6 _ _ ?_
  by_cases hc7 : 60 < ((h.length : Nat) : Int)
  · have hc := hc7
    replace F := F.setb (k := 9) (b' := true) rfl (decide_eq_true hc)
    clear hc
    refine c_true F rfl ?_
    refine c_seq (fun K8 H9 => ?_)
    refine c_region ?_
    refine stp F (f_assign rfl) rfl rfl rfl (fun ac F => ?_)
    refine stpEnd ?_
    refine H9 _ _ ?_
    refine wp_ret ?_
    refine ret1 F rfl rfl ?_
    exact ⟨by unfold checkF; rw [if_pos (by omega)], kp0⟩
  · have hc := hc7
    replace F := F.setb (k := 9) (b' := false) rfl (decide_eq_false hc)
    clear hc
    refine c_false F rfl ?_
    refine wp_skip ?_
    refine H4 _ _ ?_
    refine c_seq (fun K10 H11 => ?_)
    refine c_region ?_
    refine stp F (f_build (vs := []) (v := .agg (ckc z0 zb).toArray) rfl (fun w => by kernel_rfl)) rfl rfl rfl (fun ac F => ?_)
    refine stpE F (f_box (cs := (ckc z0 zb)) rfl rfl) rfl rfl rfl ?_
    rintro _ w13 ac ⟨g12, rfl, nb15⟩ F
    have n16 := nb15.num
    have z17 := nb15.size
    have hsz := (nb15.kp).size
    replace hh := hh.keep (nb15.kp) (by simp)
    replace kp0 := kp0.trans (nb15.kp) (by simp)
    have hb14 : Blk w13 g12 135 (ckc z0 zb) := nb15.blk
    refine stp F (f_assign rfl) rfl rfl rfl (fun ac F => ?_)
    refine stpEnd ?_
    refine H11 _ _ ?_
    refine c_seq (fun K18 H19 => ?_)
    refine c_seq (fun K20 H21 => ?_)
    refine c_region ?_
    refine stp F (f_move rfl) rfl rfl rfl (fun ac F => ?_)
    refine stp F (f_len rfl Try.underlying22) rfl rfl rfl (fun ac F => ?_)
    refine stp F (f_move rfl) rfl rfl rfl (fun ac F => ?_)
    refine stpEnd ?_
    refine H21 _ _ ?_
    refine wp_block ?_
    refine c_loop (fun mx ax wx => ∃ (k : Nat), ∃ (cs : Nat → Int), ∃ (ct : Nat → Bool), Fr ax 25 [(0, .slice A h.length c), (3, .pointer (some ⟨g12, 0, none⟩)), (12, .slice A h.length c), (13, .int .i64 ((h.length : Nat) : Int)), (14, .int .i64 (k : Int))] ∧ Kp [] w0 wx ∧ Sl wx 0 w0.heap.size 3 A h.length c (evv h) ∧ Blk wx g12 135 (ckc cs ct) ∧ (k ≤ h.length) ∧ (ckGo (h.drop k) cs ct = ckGo h z0 zb) ∧ mx = h.length - k) (h.length - 0) ?_ ?_
    · exact ⟨0, z0, zb, F.sub ⟨rfl, rfl, rfl, rfl, rfl, trivial⟩, kp0, hh, hb14, by omega, rfl, rfl⟩
    · clear F kp0 hh hb14
      rintro m23 ac wl22 ⟨k, cs, ct, F, kp0, hh, hb14, hk, hg, hm⟩
      have hsz := kp0.size
      have lt_hb14 := hb14.lt
      refine c_seq (fun K24 H25 => ?_)
      refine c_region ?_
      refine stp F (f_lss rfl rfl) rfl rfl rfl (fun ac F => ?_)
      refine stpEnd ?_
      refine H25 _ _ ?_
      refine c_seq (fun K26 H27 => ?_)
      by_cases hc28 : (k : Int) < ((h.length : Nat) : Int)
      · have hc := hc28
        replace F := F.setb (k := 15) (b' := true) rfl (decide_eq_true hc)
        clear hc
        refine c_true F rfl ?_
        refine wp_skip ?_
        refine H27 _ _ ?_
        refine c_seq (fun K29 H30 => ?_)
        refine wp_block ?_
        refine c_seq (fun K31 H32 => ?_)
        refine c_region ?_
        refine stp F (f_indexS (r := ((adr A).add (k * 3))) rfl rfl Try.underlying22 Try.sizeOf28 (by omega) (by omega) (hh.some_ (by omega)).1 (by rw [show Int.toNat (k : Int) = k from by omega])) rfl rfl rfl (fun ac F => ?_)
        refine stp F (f_loadN rfl Try.isAgg28 Try.sizeOf28 (hh.rd (i := k) (by omega) rfl)) rfl rfl rfl (fun ac F => ?_)
        refine stpE F (f_alloc (cs := [.int .i64 0, .int .i64 0, .int .i64 0]) Try.zeroValue28 rfl) rfl rfl rfl ?_
        rintro _ w34 ac ⟨g33, rfl, nb36⟩ F
        have n37 := nb36.num
        have z38 := nb36.size
        have hsz := (nb36.kp).size
        replace hh := hh.keep (nb36.kp) (by simp)
        replace hb14 := hb14.keep (nb36.kp) (by simp)
        replace kp0 := kp0.trans (nb36.kp) (by simp)
        have hb35 : Blk w34 g33 28 ([.int .i64 0, .int .i64 0, .int .i64 0]) := nb36.blk
        refine stpW F (f_store (v := .agg #[.int .i64 ((h.getD k default).proc), .int .i64 ((h.getD k default).kind), .int .i64 ((h.getD k default).msg)]) (vs := [.int .i64 ((h.getD k default).proc), .int .i64 ((h.getD k default).kind), .int .i64 ((h.getD k default).msg)]) rfl rfl hb35 Try.sizeOf28 rfl rfl (by simp) (by simp [plainV])) rfl rfl ?_
        rintro w39 ac wr40 F
        have z41 := wr40.size
        have hsz := (wr40.kp).size
        replace hh := hh.keep (wr40.kp) (by intro x hx; simp at hx; omega)
        replace hb14 := hb14.keep (wr40.kp) (by have := hb14.lt; simp; omega)
        replace kp0 := kp0.trans (wr40.kp) (by intro x hx hl; simp at hx; omega)
        replace hb35 : Blk w39 g33 28 ([.int .i64 ((h.getD k default).proc), .int .i64 ((h.getD k default).kind), .int .i64 ((h.getD k default).msg)]) := wr40.blk
        refine stpEnd ?_
        refine H32 _ _ ?_
        refine c_seq (fun K42 H43 => ?_)
        refine c_region ?_
        refine stp F (f_move rfl) rfl rfl rfl (fun ac F => ?_)
        refine stp F (f_loadN rfl Try.isAgg28 Try.sizeOf28 hb35.rdAll) rfl rfl rfl (fun ac F => ?_)
        refine stpC F (f_call (P := Try.prog) (f := 72) (vs := [.pointer (some ⟨g12, 0, none⟩), .agg #[.int .i64 ((h.getD k default).proc), .int .i64 ((h.getD k default).kind), .int .i64 ((h.getD k default).msg)]]) rfl Try.call72) (event_c _ _ _ _ _ _ _ hb14) rfl rfl rfl ?_
        rintro _ w44 ac ⟨rfl, kq45, hq46⟩ F
        have hsz := (kq45).size
        replace hh := hh.keep (kq45) (by intro x hx; simp at hx; omega)
        replace hb35 := hb35.keep (kq45) (by have := hb35.lt; simp; omega)
        replace kp0 := kp0.trans (kq45) (by intro x hx hl; simp at hx; omega)
        replace hb14 : Blk w44 g12 135 (ckc (evStep cs ct ((h.getD k default).proc) ((h.getD k default).kind) ((h.getD k default).msg)).2.1 (evStep cs ct ((h.getD k default).proc) ((h.getD k default).kind) ((h.getD k default).msg)).2.2) := hq46
        refine stp F (f_assign rfl) rfl rfl rfl (fun ac F => ?_)
        refine stpEnd ?_
        refine H43 _ _ ?_
        refine c_seq (fun K47 H48 => ?_)
        refine c_region ?_
        refine stp F (f_move rfl) rfl rfl rfl (fun ac F => ?_)
        refine stp F (f_neq rfl rfl) rfl rfl rfl (fun ac F => ?_)
        refine stpEnd ?_
        refine H48 _ _ ?_
        by_cases hc49 : (evStep cs ct ((h.getD k default).proc) ((h.getD k default).kind) ((h.getD k default).msg)).1 = 0
        · have hc := hc49
          replace F := F.setb (k := 22) (b' := false) rfl (nt (decide_eq_true hc))
          clear hc
          refine c_false F rfl ?_
          refine wp_skip ?_
          refine H30 _ _ ?_
          refine c_region ?_
          refine stp F (f_add (r := ((k + 1 : Nat) : Int)) rfl rfl (by rw [IntKind.wrap_i64]; omega)) rfl rfl rfl (fun ac F => ?_)
          refine stp F (f_move rfl) rfl rfl rfl (fun ac F => ?_)
          refine stpEnd ?_
          refine ⟨h.length - (k + 1), ?_, (k + 1), (evStep cs ct (h.getD k default).proc (h.getD k default).kind (h.getD k default).msg).2.1, (evStep cs ct (h.getD k default).proc (h.getD k default).kind (h.getD k default).msg).2.2, F.sub ⟨rfl, rfl, rfl, rfl, rfl, trivial⟩, kp0, hh, hb14, by omega, ckGo_next (by omega) hg hc49, rfl⟩
          omega
        · have hc := hc49
          replace F := F.setb (k := 22) (b' := true) rfl (nf (decide_eq_false hc))
          clear hc
          refine c_true F rfl ?_
          refine c_seq (fun K50 H51 => ?_)
          refine c_region ?_
          refine stp F (f_move rfl) rfl rfl rfl (fun ac F => ?_)
          refine stp F (f_assign rfl) rfl rfl rfl (fun ac F => ?_)
          refine stpEnd ?_
          refine H51 _ _ ?_
          refine wp_ret ?_
          refine ret1 F rfl rfl ?_
          exact ⟨by unfold checkF; rw [if_neg (by omega), ← ckGo_stop (by omega) hg hc49], kp0⟩
      · have hc := hc28
        replace F := F.setb (k := 15) (b' := false) rfl (decide_eq_false hc)
        clear hc
        refine c_false F rfl ?_
        refine wp_exit ?_
        refine H19 _ _ ?_
        refine c_seq (fun K52 H53 => ?_)
        refine c_region ?_
        refine stp F (f_assign rfl) rfl rfl rfl (fun ac F => ?_)
        refine stpEnd ?_
        refine H53 _ _ ?_
        refine wp_ret ?_
        refine ret1 F rfl rfl ?_
        exact ⟨by unfold checkF; rw [if_neg (by omega), ← ckGo_end (by omega) hg], kp0⟩

set_option maxHeartbeats 4000000 in
theorem stamps_c (A : Option Addr) (c : Nat) (h : List Ev) (w0 : World) (hh : Sl w0 0 w0.heap.size 3 A h.length c (evv h)) : Calls Try.prog 13 #[.slice A h.length c] w0 (Ret fun v w' => ∃ A' c', v = .tuple #[.slice A' ((stF h).map vi).length c', .int .i64 (checkF h)] ∧ Kp [] w0 w' ∧ Own w' w0.heap.size 3 1 A' c' ((stF h).map vi)) := by
  refine enter (n := 54) Try.func13 rfl rfl rfl (fun ac F => ?_)
  have kp0 := Kp.refl ([] : List Nat) w0
  refine c_seq (fun K1 H2 => ?_)
  refine c_region ?_
  refine stp F (f_assign rfl) rfl rfl rfl (fun ac F => ?_)
  refine stp F (f_assign rfl) rfl rfl rfl (fun ac F => ?_)
  refine stpEnd ?_
  refine H2 _ _ ?_
  refine c_seq (fun K3 H4 => ?_)
  refine c_seq (fun K5 H6 => ?_)
  refine c_region ?_
  refine stp F (f_move rfl) rfl rfl rfl (fun ac F => ?_)
  refine stpC F (f_call (P := Try.prog) (f := 44) (vs := [.slice A h.length c]) rfl Try.call44) (check_c _ _ _ _ (hh.more (Nat.zero_le _) (by omega))) rfl rfl rfl ?_
  rintro _ w7 ac ⟨rfl, kq8⟩ F
  have hsz := (kq8).size
  replace hh := hh.keep (kq8) (by simp)
  replace kp0 := kp0.trans (kq8) (by simp)
  refine stp F (f_assign rfl) rfl rfl rfl (fun ac F => ?_)
  refine stpEnd ?_
  refine H6 _ _ ?_
  refine c_seq (fun K9 H10 => ?_)
  refine c_region ?_
  refine stp F (f_move rfl) rfl rfl rfl (fun ac F => ?_)
  refine stp F (f_neq rfl rfl) rfl rfl rfl (fun ac F => ?_)
  refine stpEnd ?_
  refine H10 _ _ ?_
  by_cases hc11 : checkF h = 0
  · have hc := hc11
    replace F := F.setb (k := 14) (b' := false) rfl (nt (decide_eq_true hc))
    clear hc
    refine c_false F rfl ?_
    refine wp_skip ?_
    refine H4 _ _ ?_
    refine c_seq (fun K12 H13 => ?_)
    refine c_region ?_
    refine stp F (f_assign rfl) rfl rfl rfl (fun ac F => ?_)
    refine stpEnd ?_
    refine H13 _ _ ?_
    refine c_seq (fun K14 H15 => ?_)
    refine c_region ?_
    refine stpE F (f_alloc (cs := (arrI 6 z0)) Try.zeroValue58 (by kernel_rfl)) rfl rfl rfl ?_
    rintro _ w17 ac ⟨g16, rfl, nb19⟩ F
    have n20 := nb19.num
    have z21 := nb19.size
    have hsz := (nb19.kp).size
    replace hh := hh.keep (nb19.kp) (by simp)
    replace kp0 := kp0.trans (nb19.kp) (by simp)
    have hb18 : Blk w17 g16 58 (arrI 6 z0) := nb19.blk
    refine stpEnd ?_
    refine H15 _ _ ?_
    refine c_seq (fun K22 H23 => ?_)
    refine c_region ?_
    refine stpE F (f_alloc (cs := (arrI 30 z0)) Try.zeroValue96 (by kernel_rfl)) rfl rfl rfl ?_
    rintro _ w25 ac ⟨g24, rfl, nb27⟩ F
    have n28 := nb27.num
    have z29 := nb27.size
    have hsz := (nb27.kp).size
    replace hh := hh.keep (nb27.kp) (by simp)
    replace hb18 := hb18.keep (nb27.kp) (by simp)
    replace kp0 := kp0.trans (nb27.kp) (by simp)
    have hb26 : Blk w25 g24 96 (arrI 30 z0) := nb27.blk
    refine stpEnd ?_
    refine H23 _ _ ?_
    refine c_seq (fun K30 H31 => ?_)
    refine c_seq (fun K32 H33 => ?_)
    refine c_region ?_
    refine stp F (f_move rfl) rfl rfl rfl (fun ac F => ?_)
    refine stp F (f_len rfl Try.underlying22) rfl rfl rfl (fun ac F => ?_)
    refine stp F (f_move rfl) rfl rfl rfl (fun ac F => ?_)
    refine stpEnd ?_
    refine H33 _ _ ?_
    refine wp_block ?_
    refine c_loop (fun mx ax wx => ∃ (k : Nat), ∃ (vs : List Value), ∃ (os : List Int), ∃ (la : Nat → Int), ∃ (se : Nat → Int), ∃ (A5 : Option Addr), ∃ (c5 : Nat), Fr ax 54 [(5, .slice A5 vs.length c5), (6, .pointer (some ⟨g16, 0, none⟩)), (7, .pointer (some ⟨g24, 0, none⟩)), (16, .slice A h.length c), (17, .int .i64 ((h.length : Nat) : Int)), (18, .int .i64 (k : Int))] ∧ Kp [] w0 wx ∧ Sl wx 0 w0.heap.size 3 A h.length c (evv h) ∧ Blk wx g16 58 (arrI 6 la) ∧ Blk wx g24 96 (arrI 30 se) ∧ Own wx (g24 + 1) 3 1 A5 c5 vs ∧ (k ≤ h.length) ∧ (vs = os.map vi) ∧ (os.length = k) ∧ (∀ i, 0 ≤ la i ∧ la i ≤ k) ∧ (∀ i, 0 ≤ se i ∧ se i ≤ k) ∧ (os ++ stGo (h.drop k) la se = stGo h z0 z0) ∧ mx = h.length - k) (h.length - 0) ?_ ?_
    · exact ⟨0, [], [], z0, z0, none, 0, F.sub ⟨rfl, rfl, rfl, rfl, rfl, rfl, trivial⟩, kp0, hh, hb18, hb26, (Own.nil _ _ _ _), by omega, rfl, rfl, fun _ => by simp [z0], fun _ => by simp [z0], rfl, rfl⟩
    · clear F kp0 hh hb18 hb26
      rintro m35 ac wl34 ⟨k, vs, os, la, se, A5, c5, F, kp0, hh, hb18, hb26, ho, hk, hvs, hln, hla, hse, hg, hm⟩
      have hsz := kp0.size
      have lt_hb18 := hb18.lt
      have lt_hb26 := hb26.lt
      have b1 := hla (h.getD k default).proc.toNat
      have b2 := hse (h.getD k default).msg.toNat
      have hvl : vs.length = k := by rw [hvs]; simpa using hln
      have hob0 := ho.base_le
      refine c_seq (fun K36 H37 => ?_)
      refine c_region ?_
      refine stp F (f_lss rfl rfl) rfl rfl rfl (fun ac F => ?_)
      refine stpEnd ?_
      refine H37 _ _ ?_
      refine c_seq (fun K38 H39 => ?_)
      by_cases hc40 : (k : Int) < ((h.length : Nat) : Int)
      · have hc := hc40
        replace F := F.setb (k := 19) (b' := true) rfl (decide_eq_true hc)
        clear hc
        refine c_true F rfl ?_
        refine wp_skip ?_
        refine H39 _ _ ?_
        refine c_seq (fun K41 H42 => ?_)
        refine wp_block ?_
        refine c_seq (fun K43 H44 => ?_)
        have eb0 := (checkF_ok hc11).1
        refine c_region ?_
        refine stp F (f_indexS (r := ((adr A).add (k * 3))) rfl rfl Try.underlying22 Try.sizeOf28 (by omega) (by omega) (hh.some_ (by omega)).1 (by rw [show Int.toNat (k : Int) = k from by omega])) rfl rfl rfl (fun ac F => ?_)
        refine stp F (f_loadN rfl Try.isAgg28 Try.sizeOf28 (hh.rd (i := k) (by omega) rfl)) rfl rfl rfl (fun ac F => ?_)
        refine stpE F (f_alloc (cs := [.int .i64 0, .int .i64 0, .int .i64 0]) Try.zeroValue28 rfl) rfl rfl rfl ?_
        rintro _ w46 ac ⟨g45, rfl, nb48⟩ F
        have n49 := nb48.num
        have z50 := nb48.size
        have hsz := (nb48.kp).size
        replace hh := hh.keep (nb48.kp) (by simp)
        replace hb18 := hb18.keep (nb48.kp) (by simp)
        replace hb26 := hb26.keep (nb48.kp) (by simp)
        replace ho := ho.keep (nb48.kp) (by simp)
        replace kp0 := kp0.trans (nb48.kp) (by simp)
        have hb47 : Blk w46 g45 28 ([.int .i64 0, .int .i64 0, .int .i64 0]) := nb48.blk
        refine stpW F (f_store (v := .agg #[.int .i64 ((h.getD k default).proc), .int .i64 ((h.getD k default).kind), .int .i64 ((h.getD k default).msg)]) (vs := [.int .i64 ((h.getD k default).proc), .int .i64 ((h.getD k default).kind), .int .i64 ((h.getD k default).msg)]) rfl rfl hb47 Try.sizeOf28 rfl rfl (by simp) (by simp [plainV])) rfl rfl ?_
        rintro w51 ac wr52 F
        have z53 := wr52.size
        have hsz := (wr52.kp).size
        replace hh := hh.keep (wr52.kp) (by intro x hx; simp at hx; omega)
        replace hb18 := hb18.keep (wr52.kp) (by have := hb18.lt; simp; omega)
        replace hb26 := hb26.keep (wr52.kp) (by have := hb26.lt; simp; omega)
        replace ho := ho.keep (wr52.kp) (by intro x hx hm; have h1 := ho.base_le x hx; (try have h2 := hob0 x hx); simp at hm; omega)
        replace kp0 := kp0.trans (wr52.kp) (by intro x hx hl; simp at hx; omega)
        replace hb47 : Blk w51 g45 28 ([.int .i64 ((h.getD k default).proc), .int .i64 ((h.getD k default).kind), .int .i64 ((h.getD k default).msg)]) := wr52.blk
        refine stpEnd ?_
        refine H44 _ _ ?_
        refine c_seq (fun K54 H55 => ?_)
        have eb := (checkF_ok hc11).2 k (by omega)
        refine c_region ?_
        refine stp F (f_fieldAddr (r := ⟨g45, 0, none⟩) (sz := 0) rfl Try.underlying28 rfl Try.sizeOf3 rfl) rfl rfl rfl (fun ac F => ?_)
        refine stp F (f_load1 (v := .int .i64 ((h.getD k default).proc)) rfl Try.isAgg3 ((hb47.cell 0).trans rfl)) rfl rfl rfl (fun ac F => ?_)
        refine stp F (f_indexA (r := ⟨g16, (((h.getD k default).proc).toNat) * 1, none⟩) rfl rfl Try.underlying58 Try.sizeOf3 (by omega) (by omega) (add_eq (by omega))) rfl rfl rfl (fun ac F => ?_)
        refine stp F (f_load1 (v := .int .i64 (la (((h.getD k default).proc).toNat))) rfl Try.isAgg3 ((hb18.cell _).trans (arrI_get (i := (((h.getD k default).proc).toNat)) (by omega)))) rfl rfl rfl (fun ac F => ?_)
        refine stp F (f_assign rfl) rfl rfl rfl (fun ac F => ?_)
        refine stpEnd ?_
        refine H55 _ _ ?_
        refine c_seq (fun K56 H57 => ?_)
        refine c_seq (fun K58 H59 => ?_)
        refine c_region ?_
        refine stp F (f_fieldAddr (r := ⟨g45, 1, none⟩) (sz := 0) rfl Try.underlying28 rfl Try.sizeOf3 rfl) rfl rfl rfl (fun ac F => ?_)
        refine stp F (f_load1 (v := .int .i64 ((h.getD k default).kind)) rfl Try.isAgg3 ((hb47.cell 1).trans rfl)) rfl rfl rfl (fun ac F => ?_)
        refine stp F (f_eql rfl rfl) rfl rfl rfl (fun ac F => ?_)
        refine stpEnd ?_
        refine H59 _ _ ?_
        by_cases hc60 : (h.getD k default).kind = 3
        · have hc := hc60
          replace F := F.setb (k := 28) (b' := true) rfl (decide_eq_true hc)
          clear hc
          refine c_true F rfl ?_
          refine c_region ?_
          refine stp F (f_move rfl) rfl rfl rfl (fun ac F => ?_)
          refine stp F (f_fieldAddr (r := ⟨g45, 2, none⟩) (sz := 0) rfl Try.underlying28 rfl Try.sizeOf3 rfl) rfl rfl rfl (fun ac F => ?_)
          refine stp F (f_load1 (v := .int .i64 ((h.getD k default).msg)) rfl Try.isAgg3 ((hb47.cell 2).trans rfl)) rfl rfl rfl (fun ac F => ?_)
          refine stp F (f_indexA (r := ⟨g24, (((h.getD k default).msg).toNat) * 1, none⟩) rfl rfl Try.underlying96 Try.sizeOf3 (by omega) (by omega) (add_eq (by omega))) rfl rfl rfl (fun ac F => ?_)
          refine stp F (f_load1 (v := .int .i64 (se (((h.getD k default).msg).toNat))) rfl Try.isAgg3 ((hb26.cell _).trans (arrI_get (i := (((h.getD k default).msg).toNat)) (by omega)))) rfl rfl rfl (fun ac F => ?_)
          obtain ⟨mm34, hmm34⟩ : ∃ r : Int, max (la (((h.getD k default).proc).toNat)) (se (((h.getD k default).msg).toNat)) = r := ⟨_, rfl⟩
          have hmm34_l : (la (((h.getD k default).proc).toNat)) ≤ mm34 ∧ (se (((h.getD k default).msg).toNat)) ≤ mm34 ∧ (mm34 = (la (((h.getD k default).proc).toNat)) ∨ mm34 = (se (((h.getD k default).msg).toNat))) := by omega
          refine stp F (f_max rfl rfl hmm34) rfl rfl rfl (fun ac F => ?_)
          refine stp F (f_assign rfl) rfl rfl rfl (fun ac F => ?_)
          refine stpEnd ?_
          refine H57 _ _ ?_
          refine c_seq (fun K61 H62 => ?_)
          refine c_region ?_
          refine stp F (f_move rfl) rfl rfl rfl (fun ac F => ?_)
          refine stp F (f_add (r := mm34 + 1) rfl rfl (by rw [IntKind.wrap_i64]; omega)) rfl rfl rfl (fun ac F => ?_)
          refine stp F (f_assign rfl) rfl rfl rfl (fun ac F => ?_)
          refine stpEnd ?_
          refine H62 _ _ ?_
          refine c_seq (fun K63 H64 => ?_)
          refine c_region ?_
          refine stp F (f_fieldAddr (r := ⟨g45, 0, none⟩) (sz := 0) rfl Try.underlying28 rfl Try.sizeOf3 rfl) rfl rfl rfl (fun ac F => ?_)
          refine stp F (f_load1 (v := .int .i64 ((h.getD k default).proc)) rfl Try.isAgg3 ((hb47.cell 0).trans rfl)) rfl rfl rfl (fun ac F => ?_)
          refine stp F (f_move rfl) rfl rfl rfl (fun ac F => ?_)
          refine stp F (f_indexA (r := ⟨g16, (((h.getD k default).proc).toNat) * 1, none⟩) rfl rfl Try.underlying58 Try.sizeOf3 (by omega) (by omega) (add_eq (by omega))) rfl rfl rfl (fun ac F => ?_)
          refine stpW F (f_store (v := .int .i64 (mm34 + 1)) (vs := [.int .i64 (mm34 + 1)]) rfl rfl hb18 Try.sizeOf3 rfl rfl (arrI_lt (i := (((h.getD k default).proc).toNat)) (by omega)) (by simp [plainV])) rfl rfl ?_
          rintro w65 ac wr66 F
          have z67 := wr66.size
          have hsz := (wr66.kp).size
          replace hh := hh.keep (wr66.kp) (by intro x hx; simp at hx; omega)
          replace hb26 := hb26.keep (wr66.kp) (by have := hb26.lt; simp; omega)
          replace ho := ho.keep (wr66.kp) (by intro x hx hm; have h1 := ho.base_le x hx; (try have h2 := hob0 x hx); simp at hm; omega)
          replace hb47 := hb47.keep (wr66.kp) (by have := hb47.lt; simp; omega)
          replace kp0 := kp0.trans (wr66.kp) (by intro x hx hl; simp at hx; omega)
          replace hb18 : Blk w65 g16 58 (arrI 6 (upd la (((h.getD k default).proc).toNat) (mm34 + 1))) := (by have hx_ := wr66.blk; rw [arrI_put (i := (((h.getD k default).proc).toNat)) (by omega)] at hx_; exact hx_)
          refine stpEnd ?_
          refine H64 _ _ ?_
          refine c_seq (fun K68 H69 => ?_)
          refine c_seq (fun K70 H71 => ?_)
          refine c_region ?_
          refine stp F (f_fieldAddr (r := ⟨g45, 1, none⟩) (sz := 0) rfl Try.underlying28 rfl Try.sizeOf3 rfl) rfl rfl rfl (fun ac F => ?_)
          refine stp F (f_load1 (v := .int .i64 ((h.getD k default).kind)) rfl Try.isAgg3 ((hb47.cell 1).trans rfl)) rfl rfl rfl (fun ac F => ?_)
          refine stp F (f_eql rfl rfl) rfl rfl rfl (fun ac F => ?_)
          refine stpEnd ?_
          refine H71 _ _ ?_
          by_cases hc72 : (h.getD k default).kind = 2
          · have hc := hc72
            exfalso; omega
          · have hc := hc72
            replace F := F.setb (k := 43) (b' := false) rfl (decide_eq_false hc)
            clear hc
            refine c_false F rfl ?_
            refine wp_skip ?_
            refine H69 _ _ ?_
            refine c_region ?_
            refine stp F (f_move rfl) rfl rfl rfl (fun ac F => ?_)
            refine stp F (f_move rfl) rfl rfl rfl (fun ac F => ?_)
            refine stpE F (f_buildSlice (el := 3) (vs := [(0, .int .i64 (mm34 + 1))]) (cs := [.int .i64 (mm34 + 1)]) rfl (fun w => by kernel_rfl)) rfl rfl rfl ?_
            rintro _ w74 ac ⟨g73, rfl, nb75⟩ F
            have n77 := nb75.num
            have z78 := nb75.size
            have hsz := (nb75.kp).size
            replace hh := hh.keep (nb75.kp) (by simp)
            replace hb18 := hb18.keep (nb75.kp) (by simp)
            replace hb26 := hb26.keep (nb75.kp) (by simp)
            replace ho := ho.keep (nb75.kp) (by simp)
            replace hb47 := hb47.keep (nb75.kp) (by simp)
            replace kp0 := kp0.trans (nb75.kp) (by simp)
            have hb76 : Blk w74 g73 3 ([.int .i64 (mm34 + 1)]) := nb75.blk
            have hob := ho.base_le
            refine stpE F (f_append1 (v := .int .i64 (mm34 + 1)) (vs := vs) (bytes := 8) rfl rfl Try.underlying23 (i := Try.t3) (by kernel_rfl) rfl rfl rfl rfl (by decide) ho hb76 rfl (by simp [Value.cells, Value.oneCell']) (by omega) (by omega) (by omega)) rfl rfl rfl ?_
            rintro _ w81 ac ⟨A79, c80, rfl, hap82, kq83, hbl⟩ F
            have z84 := kq83.size
            have hsz := (kq83).size
            replace hh := hh.keep (kq83) (by intro x hx; have := ho.base_le x hx; omega)
            replace hb18 := hb18.keep (kq83) (by intro hx; have h1 := ho.base_le _ hx; (try have h2 := hob0 _ hx); omega)
            replace hb26 := hb26.keep (kq83) (by intro hx; have h1 := ho.base_le _ hx; (try have h2 := hob0 _ hx); omega)
            replace hb47 := hb47.keep (kq83) (by intro hx; have h1 := ho.base_le _ hx; (try have h2 := hob0 _ hx); omega)
            replace hb76 := hb76.keep (kq83) (by intro hx; have h1 := ho.base_le _ hx; (try have h2 := hob0 _ hx); omega)
            replace kp0 := kp0.trans (kq83) (by intro x hx hl; have := ho.base_le x hx; omega)
            replace ho : Own w81 (g24 + 1) 3 1 A79 c80 (vs ++ [.int .i64 (mm34 + 1)]) := hap82
            refine stp F (f_assign rfl) rfl rfl rfl (fun ac F => ?_)
            refine stpEnd ?_
            refine H42 _ _ ?_
            refine c_region ?_
            refine stp F (f_add (r := ((k + 1 : Nat) : Int)) rfl rfl (by rw [IntKind.wrap_i64]; omega)) rfl rfl rfl (fun ac F => ?_)
            refine stp F (f_move rfl) rfl rfl rfl (fun ac F => ?_)
            refine stpEnd ?_
            refine ⟨h.length - (k + 1), ?_, (k + 1), (vs ++ [.int .i64 (mm34 + 1)]), (os ++ [mm34 + 1]), (upd la (h.getD k default).proc.toNat (mm34 + 1)), se, A79, c80, F.sub ⟨rfl, rfl, rfl, rfl, rfl, rfl, trivial⟩, kp0, hh, hb18, hb26, ho, by omega, by rw [hvs]; simp, by simp [hln], upd_bd hla (by omega), bd_next hse, stGo_next (by omega) hg (by unfold stNew; rw [if_pos hc60, hmm34]) (by rw [if_neg hc72]), rfl⟩
            omega
        · have hc := hc60
          replace F := F.setb (k := 28) (b' := false) rfl (decide_eq_false hc)
          clear hc
          refine c_false F rfl ?_
          refine wp_skip ?_
          refine H57 _ _ ?_
          refine c_seq (fun K85 H86 => ?_)
          refine c_region ?_
          refine stp F (f_move rfl) rfl rfl rfl (fun ac F => ?_)
          refine stp F (f_add (r := (la (((h.getD k default).proc).toNat)) + 1) rfl rfl (by rw [IntKind.wrap_i64]; omega)) rfl rfl rfl (fun ac F => ?_)
          refine stp F (f_assign rfl) rfl rfl rfl (fun ac F => ?_)
          refine stpEnd ?_
          refine H86 _ _ ?_
          refine c_seq (fun K87 H88 => ?_)
          refine c_region ?_
          refine stp F (f_fieldAddr (r := ⟨g45, 0, none⟩) (sz := 0) rfl Try.underlying28 rfl Try.sizeOf3 rfl) rfl rfl rfl (fun ac F => ?_)
          refine stp F (f_load1 (v := .int .i64 ((h.getD k default).proc)) rfl Try.isAgg3 ((hb47.cell 0).trans rfl)) rfl rfl rfl (fun ac F => ?_)
          refine stp F (f_move rfl) rfl rfl rfl (fun ac F => ?_)
          refine stp F (f_indexA (r := ⟨g16, (((h.getD k default).proc).toNat) * 1, none⟩) rfl rfl Try.underlying58 Try.sizeOf3 (by omega) (by omega) (add_eq (by omega))) rfl rfl rfl (fun ac F => ?_)
          refine stpW F (f_store (v := .int .i64 ((la (((h.getD k default).proc).toNat)) + 1)) (vs := [.int .i64 ((la (((h.getD k default).proc).toNat)) + 1)]) rfl rfl hb18 Try.sizeOf3 rfl rfl (arrI_lt (i := (((h.getD k default).proc).toNat)) (by omega)) (by simp [plainV])) rfl rfl ?_
          rintro w89 ac wr90 F
          have z91 := wr90.size
          have hsz := (wr90.kp).size
          replace hh := hh.keep (wr90.kp) (by intro x hx; simp at hx; omega)
          replace hb26 := hb26.keep (wr90.kp) (by have := hb26.lt; simp; omega)
          replace ho := ho.keep (wr90.kp) (by intro x hx hm; have h1 := ho.base_le x hx; (try have h2 := hob0 x hx); simp at hm; omega)
          replace hb47 := hb47.keep (wr90.kp) (by have := hb47.lt; simp; omega)
          replace kp0 := kp0.trans (wr90.kp) (by intro x hx hl; simp at hx; omega)
          replace hb18 : Blk w89 g16 58 (arrI 6 (upd la (((h.getD k default).proc).toNat) ((la (((h.getD k default).proc).toNat)) + 1))) := (by have hx_ := wr90.blk; rw [arrI_put (i := (((h.getD k default).proc).toNat)) (by omega)] at hx_; exact hx_)
          refine stpEnd ?_
          refine H88 _ _ ?_
          refine c_seq (fun K92 H93 => ?_)
          refine c_seq (fun K94 H95 => ?_)
          refine c_region ?_
          refine stp F (f_fieldAddr (r := ⟨g45, 1, none⟩) (sz := 0) rfl Try.underlying28 rfl Try.sizeOf3 rfl) rfl rfl rfl (fun ac F => ?_)
          refine stp F (f_load1 (v := .int .i64 ((h.getD k default).kind)) rfl Try.isAgg3 ((hb47.cell 1).trans rfl)) rfl rfl rfl (fun ac F => ?_)
          refine stp F (f_eql rfl rfl) rfl rfl rfl (fun ac F => ?_)
          refine stpEnd ?_
          refine H95 _ _ ?_
          by_cases hc96 : (h.getD k default).kind = 2
          · have hc := hc96
            replace F := F.setb (k := 43) (b' := true) rfl (decide_eq_true hc)
            clear hc
            refine c_true F rfl ?_
            refine c_region ?_
            refine stp F (f_fieldAddr (r := ⟨g45, 2, none⟩) (sz := 0) rfl Try.underlying28 rfl Try.sizeOf3 rfl) rfl rfl rfl (fun ac F => ?_)
            refine stp F (f_load1 (v := .int .i64 ((h.getD k default).msg)) rfl Try.isAgg3 ((hb47.cell 2).trans rfl)) rfl rfl rfl (fun ac F => ?_)
            refine stp F (f_move rfl) rfl rfl rfl (fun ac F => ?_)
            refine stp F (f_indexA (r := ⟨g24, (((h.getD k default).msg).toNat) * 1, none⟩) rfl rfl Try.underlying96 Try.sizeOf3 (by omega) (by omega) (add_eq (by omega))) rfl rfl rfl (fun ac F => ?_)
            refine stpW F (f_store (v := .int .i64 ((la (((h.getD k default).proc).toNat)) + 1)) (vs := [.int .i64 ((la (((h.getD k default).proc).toNat)) + 1)]) rfl rfl hb26 Try.sizeOf3 rfl rfl (arrI_lt (i := (((h.getD k default).msg).toNat)) (by omega)) (by simp [plainV])) rfl rfl ?_
            rintro w97 ac wr98 F
            have z99 := wr98.size
            have hsz := (wr98.kp).size
            replace hh := hh.keep (wr98.kp) (by intro x hx; simp at hx; omega)
            replace hb18 := hb18.keep (wr98.kp) (by have := hb18.lt; simp; omega)
            replace ho := ho.keep (wr98.kp) (by intro x hx hm; have h1 := ho.base_le x hx; (try have h2 := hob0 x hx); simp at hm; omega)
            replace hb47 := hb47.keep (wr98.kp) (by have := hb47.lt; simp; omega)
            replace kp0 := kp0.trans (wr98.kp) (by intro x hx hl; simp at hx; omega)
            replace hb26 : Blk w97 g24 96 (arrI 30 (upd se (((h.getD k default).msg).toNat) ((la (((h.getD k default).proc).toNat)) + 1))) := (by have hx_ := wr98.blk; rw [arrI_put (i := (((h.getD k default).msg).toNat)) (by omega)] at hx_; exact hx_)
            refine stpEnd ?_
            refine H93 _ _ ?_
            refine c_region ?_
            refine stp F (f_move rfl) rfl rfl rfl (fun ac F => ?_)
            refine stp F (f_move rfl) rfl rfl rfl (fun ac F => ?_)
            refine stpE F (f_buildSlice (el := 3) (vs := [(0, .int .i64 ((la (((h.getD k default).proc).toNat)) + 1))]) (cs := [.int .i64 ((la (((h.getD k default).proc).toNat)) + 1)]) rfl (fun w => by kernel_rfl)) rfl rfl rfl ?_
            rintro _ w101 ac ⟨g100, rfl, nb102⟩ F
            have n104 := nb102.num
            have z105 := nb102.size
            have hsz := (nb102.kp).size
            replace hh := hh.keep (nb102.kp) (by simp)
            replace hb18 := hb18.keep (nb102.kp) (by simp)
            replace hb26 := hb26.keep (nb102.kp) (by simp)
            replace ho := ho.keep (nb102.kp) (by simp)
            replace hb47 := hb47.keep (nb102.kp) (by simp)
            replace kp0 := kp0.trans (nb102.kp) (by simp)
            have hb103 : Blk w101 g100 3 ([.int .i64 ((la (((h.getD k default).proc).toNat)) + 1)]) := nb102.blk
            have hob := ho.base_le
            refine stpE F (f_append1 (v := .int .i64 ((la (((h.getD k default).proc).toNat)) + 1)) (vs := vs) (bytes := 8) rfl rfl Try.underlying23 (i := Try.t3) (by kernel_rfl) rfl rfl rfl rfl (by decide) ho hb103 rfl (by simp [Value.cells, Value.oneCell']) (by omega) (by omega) (by omega)) rfl rfl rfl ?_
            rintro _ w108 ac ⟨A106, c107, rfl, hap109, kq110, hbl⟩ F
            have z111 := kq110.size
            have hsz := (kq110).size
            replace hh := hh.keep (kq110) (by intro x hx; have := ho.base_le x hx; omega)
            replace hb18 := hb18.keep (kq110) (by intro hx; have h1 := ho.base_le _ hx; (try have h2 := hob0 _ hx); omega)
            replace hb26 := hb26.keep (kq110) (by intro hx; have h1 := ho.base_le _ hx; (try have h2 := hob0 _ hx); omega)
            replace hb47 := hb47.keep (kq110) (by intro hx; have h1 := ho.base_le _ hx; (try have h2 := hob0 _ hx); omega)
            replace hb103 := hb103.keep (kq110) (by intro hx; have h1 := ho.base_le _ hx; (try have h2 := hob0 _ hx); omega)
            replace kp0 := kp0.trans (kq110) (by intro x hx hl; have := ho.base_le x hx; omega)
            replace ho : Own w108 (g24 + 1) 3 1 A106 c107 (vs ++ [.int .i64 ((la (((h.getD k default).proc).toNat)) + 1)]) := hap109
            refine stp F (f_assign rfl) rfl rfl rfl (fun ac F => ?_)
            refine stpEnd ?_
            refine H42 _ _ ?_
            refine c_region ?_
            refine stp F (f_add (r := ((k + 1 : Nat) : Int)) rfl rfl (by rw [IntKind.wrap_i64]; omega)) rfl rfl rfl (fun ac F => ?_)
            refine stp F (f_move rfl) rfl rfl rfl (fun ac F => ?_)
            refine stpEnd ?_
            refine ⟨h.length - (k + 1), ?_, (k + 1), (vs ++ [.int .i64 ((la (((h.getD k default).proc).toNat)) + 1)]), (os ++ [(la (((h.getD k default).proc).toNat)) + 1]), (upd la (h.getD k default).proc.toNat ((la (((h.getD k default).proc).toNat)) + 1)), (upd se (((h.getD k default).msg).toNat) ((la (((h.getD k default).proc).toNat)) + 1)), A106, c107, F.sub ⟨rfl, rfl, rfl, rfl, rfl, rfl, trivial⟩, kp0, hh, hb18, hb26, ho, by omega, by rw [hvs]; simp, by simp [hln], upd_bd hla (by omega), upd_bd hse (by omega), stGo_next (by omega) hg (by unfold stNew; rw [if_neg hc60]) (by rw [if_pos hc96]), rfl⟩
            omega
          · have hc := hc96
            replace F := F.setb (k := 43) (b' := false) rfl (decide_eq_false hc)
            clear hc
            refine c_false F rfl ?_
            refine wp_skip ?_
            refine H93 _ _ ?_
            refine c_region ?_
            refine stp F (f_move rfl) rfl rfl rfl (fun ac F => ?_)
            refine stp F (f_move rfl) rfl rfl rfl (fun ac F => ?_)
            refine stpE F (f_buildSlice (el := 3) (vs := [(0, .int .i64 ((la (((h.getD k default).proc).toNat)) + 1))]) (cs := [.int .i64 ((la (((h.getD k default).proc).toNat)) + 1)]) rfl (fun w => by kernel_rfl)) rfl rfl rfl ?_
            rintro _ w113 ac ⟨g112, rfl, nb114⟩ F
            have n116 := nb114.num
            have z117 := nb114.size
            have hsz := (nb114.kp).size
            replace hh := hh.keep (nb114.kp) (by simp)
            replace hb18 := hb18.keep (nb114.kp) (by simp)
            replace hb26 := hb26.keep (nb114.kp) (by simp)
            replace ho := ho.keep (nb114.kp) (by simp)
            replace hb47 := hb47.keep (nb114.kp) (by simp)
            replace kp0 := kp0.trans (nb114.kp) (by simp)
            have hb115 : Blk w113 g112 3 ([.int .i64 ((la (((h.getD k default).proc).toNat)) + 1)]) := nb114.blk
            have hob := ho.base_le
            refine stpE F (f_append1 (v := .int .i64 ((la (((h.getD k default).proc).toNat)) + 1)) (vs := vs) (bytes := 8) rfl rfl Try.underlying23 (i := Try.t3) (by kernel_rfl) rfl rfl rfl rfl (by decide) ho hb115 rfl (by simp [Value.cells, Value.oneCell']) (by omega) (by omega) (by omega)) rfl rfl rfl ?_
            rintro _ w120 ac ⟨A118, c119, rfl, hap121, kq122, hbl⟩ F
            have z123 := kq122.size
            have hsz := (kq122).size
            replace hh := hh.keep (kq122) (by intro x hx; have := ho.base_le x hx; omega)
            replace hb18 := hb18.keep (kq122) (by intro hx; have h1 := ho.base_le _ hx; (try have h2 := hob0 _ hx); omega)
            replace hb26 := hb26.keep (kq122) (by intro hx; have h1 := ho.base_le _ hx; (try have h2 := hob0 _ hx); omega)
            replace hb47 := hb47.keep (kq122) (by intro hx; have h1 := ho.base_le _ hx; (try have h2 := hob0 _ hx); omega)
            replace hb115 := hb115.keep (kq122) (by intro hx; have h1 := ho.base_le _ hx; (try have h2 := hob0 _ hx); omega)
            replace kp0 := kp0.trans (kq122) (by intro x hx hl; have := ho.base_le x hx; omega)
            replace ho : Own w120 (g24 + 1) 3 1 A118 c119 (vs ++ [.int .i64 ((la (((h.getD k default).proc).toNat)) + 1)]) := hap121
            refine stp F (f_assign rfl) rfl rfl rfl (fun ac F => ?_)
            refine stpEnd ?_
            refine H42 _ _ ?_
            refine c_region ?_
            refine stp F (f_add (r := ((k + 1 : Nat) : Int)) rfl rfl (by rw [IntKind.wrap_i64]; omega)) rfl rfl rfl (fun ac F => ?_)
            refine stp F (f_move rfl) rfl rfl rfl (fun ac F => ?_)
            refine stpEnd ?_
            refine ⟨h.length - (k + 1), ?_, (k + 1), (vs ++ [.int .i64 ((la (((h.getD k default).proc).toNat)) + 1)]), (os ++ [(la (((h.getD k default).proc).toNat)) + 1]), (upd la (h.getD k default).proc.toNat ((la (((h.getD k default).proc).toNat)) + 1)), se, A118, c119, F.sub ⟨rfl, rfl, rfl, rfl, rfl, rfl, trivial⟩, kp0, hh, hb18, hb26, ho, by omega, by rw [hvs]; simp, by simp [hln], upd_bd hla (by omega), bd_next hse, stGo_next (by omega) hg (by unfold stNew; rw [if_neg hc60]) (by rw [if_neg hc96]), rfl⟩
            omega
      · have hc := hc40
        replace F := F.setb (k := 19) (b' := false) rfl (decide_eq_false hc)
        clear hc
        refine c_false F rfl ?_
        refine wp_exit ?_
        refine H31 _ _ ?_
        refine c_seq (fun K124 H125 => ?_)
        refine c_region ?_
        refine stp F (f_move rfl) rfl rfl rfl (fun ac F => ?_)
        refine stp F (f_assign rfl) rfl rfl rfl (fun ac F => ?_)
        refine stp F (f_assign rfl) rfl rfl rfl (fun ac F => ?_)
        refine stpEnd ?_
        refine H125 _ _ ?_
        refine wp_ret ?_
        refine ret2 F rfl rfl rfl ?_
        have e1 : stF h = os := by unfold stF; rw [if_pos hc11, ← stGo_end (by omega) hg]
        exact ⟨_, _, by rw [e1, hc11, ← hvs], kp0, by rw [e1, ← hvs]; exact ho.more (by omega)⟩
  · have hc := hc11
    replace F := F.setb (k := 14) (b' := true) rfl (nf (decide_eq_false hc))
    clear hc
    refine c_true F rfl ?_
    refine c_seq (fun K126 H127 => ?_)
    refine c_region ?_
    refine stp F (f_move rfl) rfl rfl rfl (fun ac F => ?_)
    refine stp F (f_assign rfl) rfl rfl rfl (fun ac F => ?_)
    refine stp F (f_assign rfl) rfl rfl rfl (fun ac F => ?_)
    refine stpEnd ?_
    refine H127 _ _ ?_
    refine wp_ret ?_
    refine ret2 F rfl rfl rfl ?_
    exact ⟨none, 0, by simp [stF, hc11], kp0, by simp [stF, hc11]; exact Own.nil _ _ _ _⟩
end Go.Proofs.Ytkbngaollbmcbaa.KK

namespace Go.Proofs.Ytkbngaollbmcbaa.KK
open Go Go.RowKit Go.Sort

set_option maxHeartbeats 4000000 in
theorem isNaN_c (x : Int) (w0 : World) : Calls Try.prog 71 #[.int .i64 x] w0 (Ret fun v w' => v = .bool false ∧ w0 = w') := by
  refine enter (n := 6) Try.func71 rfl rfl rfl (fun ac F => ?_)
  have kp0 := Kp.refl ([] : List Nat) w0
  refine c_seq (fun K1 H2 => ?_)
  refine c_region ?_
  refine stp F (f_assign rfl) rfl rfl rfl (fun ac F => ?_)
  refine stpEnd ?_
  refine H2 _ _ ?_
  refine c_seq (fun K3 H4 => ?_)
  refine c_region ?_
  refine stp F (f_move rfl) rfl rfl rfl (fun ac F => ?_)
  refine stp F (f_move rfl) rfl rfl rfl (fun ac F => ?_)
  refine stp F (f_neq rfl rfl) rfl rfl rfl (fun ac F => ?_)
  refine stp F (f_assign rfl) rfl rfl rfl (fun ac F => ?_)
  refine stpEnd ?_
  refine H4 _ _ ?_
  refine wp_ret ?_
  refine ret1 F rfl rfl ?_
  exact ⟨by simp, rfl⟩

set_option maxHeartbeats 4000000 in
theorem cmp_c (x y : Int) (w0 : World) : Calls Try.prog 43 #[.int .i64 x, .int .i64 y] w0 (Ret fun v w' => v = .int .i64 (cmpI x y) ∧ w0 = w') := by
  refine enter (n := 20) Try.func43 rfl rfl rfl (fun ac F => ?_)
  have kp0 := Kp.refl ([] : List Nat) w0
  refine c_seq (fun K1 H2 => ?_)
  refine c_region ?_
  refine stp F (f_assign rfl) rfl rfl rfl (fun ac F => ?_)
  refine stpEnd ?_
  refine H2 _ _ ?_
  refine c_seq (fun K3 H4 => ?_)
  refine c_region ?_
  refine stp F (f_move rfl) rfl rfl rfl (fun ac F => ?_)
  refine stpC F (f_call (P := Try.prog) (f := 71) (vs := [.int .i64 x]) rfl Try.call71) (isNaN_c _ _) rfl rfl rfl ?_
  rintro _ _ ac ⟨rfl, rfl⟩ F
  refine stp F (f_assign rfl) rfl rfl rfl (fun ac F => ?_)
  refine stpEnd ?_
  refine H4 _ _ ?_
  refine c_seq (fun K5 H6 => ?_)
  refine c_region ?_
  refine stp F (f_move rfl) rfl rfl rfl (fun ac F => ?_)
  refine stpC F (f_call (P := Try.prog) (f := 71) (vs := [.int .i64 y]) rfl Try.call71) (isNaN_c _ _) rfl rfl rfl ?_
  rintro _ _ ac ⟨rfl, rfl⟩ F
  refine stp F (f_assign rfl) rfl rfl rfl (fun ac F => ?_)
  refine stpEnd ?_
  refine H6 _ _ ?_
  refine c_seq (fun K7 H8 => ?_)
  refine c_seq (fun K9 H10 => ?_)
  refine c_region ?_
  refine stp F (f_move rfl) rfl rfl rfl (fun ac F => ?_)
  refine stpEnd ?_
  refine H10 _ _ ?_
  refine c_false F rfl ?_
  refine wp_skip ?_
  refine H8 _ _ ?_
  refine c_seq (fun K11 H12 => ?_)
  refine c_seq (fun K13 H14 => ?_)
  refine c_region ?_
  refine stp F (f_move rfl) rfl rfl rfl (fun ac F => ?_)
  refine stpEnd ?_
  refine H14 _ _ ?_
  refine c_false F rfl ?_
  refine wp_skip ?_
  refine H12 _ _ ?_
  refine c_seq (fun K15 H16 => ?_)
  refine c_seq (fun K17 H18 => ?_)
  refine c_region ?_
  refine stp F (f_move rfl) rfl rfl rfl (fun ac F => ?_)
  refine stp F (f_move rfl) rfl rfl rfl (fun ac F => ?_)
  refine stp F (f_lss rfl rfl) rfl rfl rfl (fun ac F => ?_)
  refine stpEnd ?_
  refine H18 _ _ ?_
  by_cases hc19 : x < y
  · have hc := hc19
    replace F := F.setb (k := 16) (b' := true) rfl (decide_eq_true hc)
    clear hc
    refine c_true F rfl ?_
    refine c_seq (fun K20 H21 => ?_)
    refine c_region ?_
    refine stp F (f_assign rfl) rfl rfl rfl (fun ac F => ?_)
    refine stpEnd ?_
    refine H21 _ _ ?_
    refine wp_ret ?_
    refine ret1 F rfl rfl ?_
    exact ⟨by simp only [cmpI]; (repeat' split) <;> first | rfl | (exfalso; omega), rfl⟩
  · have hc := hc19
    replace F := F.setb (k := 16) (b' := false) rfl (decide_eq_false hc)
    clear hc
    refine c_false F rfl ?_
    refine wp_skip ?_
    refine H16 _ _ ?_
    refine c_seq (fun K22 H23 => ?_)
    refine c_seq (fun K24 H25 => ?_)
    refine c_region ?_
    refine stp F (f_move rfl) rfl rfl rfl (fun ac F => ?_)
    refine stp F (f_move rfl) rfl rfl rfl (fun ac F => ?_)
    refine stp F (f_gtr rfl rfl) rfl rfl rfl (fun ac F => ?_)
    refine stpEnd ?_
    refine H25 _ _ ?_
    by_cases hc26 : y < x
    · have hc := hc26
      replace F := F.setb (k := 19) (b' := true) rfl (decide_eq_true hc)
      clear hc
      refine c_true F rfl ?_
      refine c_seq (fun K27 H28 => ?_)
      refine c_region ?_
      refine stp F (f_assign rfl) rfl rfl rfl (fun ac F => ?_)
      refine stpEnd ?_
      refine H28 _ _ ?_
      refine wp_ret ?_
      refine ret1 F rfl rfl ?_
      exact ⟨by simp only [cmpI]; (repeat' split) <;> first | rfl | (exfalso; omega), rfl⟩
    · have hc := hc26
      replace F := F.setb (k := 19) (b' := false) rfl (decide_eq_false hc)
      clear hc
      refine c_false F rfl ?_
      refine wp_skip ?_
      refine H23 _ _ ?_
      refine c_seq (fun K29 H30 => ?_)
      refine c_region ?_
      refine stp F (f_assign rfl) rfl rfl rfl (fun ac F => ?_)
      refine stpEnd ?_
      refine H30 _ _ ?_
      refine wp_ret ?_
      refine ret1 F rfl rfl ?_
      exact ⟨by simp only [cmpI]; (repeat' split) <;> first | rfl | (exfalso; omega), rfl⟩

set_option maxHeartbeats 4000000 in
theorem or_c (A : Option Addr) (c : Nat) (l : List Int) (w0 : World) (hl : Sl w0 0 w0.heap.size 1 A l.length c (ivv l)) (hn : l.length < 4611686018427387904) : Calls Try.prog 42 #[.slice A l.length c] w0 (Ret fun v w' => v = .int .i64 (orF l) ∧ Kp [] w0 w') := by
  refine enter (n := 18) Try.func42 rfl rfl rfl (fun ac F => ?_)
  have kp0 := Kp.refl ([] : List Nat) w0
  refine c_seq (fun K1 H2 => ?_)
  refine c_region ?_
  refine stp F (f_assign rfl) rfl rfl rfl (fun ac F => ?_)
  refine stpEnd ?_
  refine H2 _ _ ?_
  refine c_seq (fun K3 H4 => ?_)
  refine c_region ?_
  refine stp F (f_assign rfl) rfl rfl rfl (fun ac F => ?_)
  refine stpEnd ?_
  refine H4 _ _ ?_
  refine c_seq (fun K5 H6 => ?_)
  refine c_seq (fun K7 H8 => ?_)
  refine c_region ?_
  refine stp F (f_move rfl) rfl rfl rfl (fun ac F => ?_)
  refine stp F (f_len rfl Try.underlying23) rfl rfl rfl (fun ac F => ?_)
  refine stp F (f_move rfl) rfl rfl rfl (fun ac F => ?_)
  refine stpEnd ?_
  refine H8 _ _ ?_
  refine wp_block ?_
  refine c_loop (fun mx ax wx => ∃ (k : Nat), Fr ax 18 [(0, .slice A l.length c), (3, .int .i64 0), (6, .slice A l.length c), (7, .int .i64 ((l.length : Nat) : Int)), (8, .int .i64 (k : Int))] ∧ Kp [] w0 wx ∧ Sl wx 0 w0.heap.size 1 A l.length c (ivv l) ∧ (k ≤ l.length) ∧ (orF (l.drop k) = orF l) ∧ mx = l.length - k) (l.length - 0) ?_ ?_
  · exact ⟨0, F.sub ⟨rfl, rfl, rfl, rfl, rfl, trivial⟩, kp0, hl, by omega, rfl, rfl⟩
  · clear F kp0 hl
    rintro m10 ac wl9 ⟨k, F, kp0, hl, hk, hg, hm⟩
    have hsz := kp0.size
    refine c_seq (fun K11 H12 => ?_)
    refine c_region ?_
    refine stp F (f_lss rfl rfl) rfl rfl rfl (fun ac F => ?_)
    refine stpEnd ?_
    refine H12 _ _ ?_
    refine c_seq (fun K13 H14 => ?_)
    by_cases hc15 : (k : Int) < ((l.length : Nat) : Int)
    · have hc := hc15
      replace F := F.setb (k := 9) (b' := true) rfl (decide_eq_true hc)
      clear hc
      refine c_true F rfl ?_
      refine wp_skip ?_
      refine H14 _ _ ?_
      refine c_seq (fun K16 H17 => ?_)
      refine wp_block ?_
      refine c_seq (fun K18 H19 => ?_)
      refine c_region ?_
      refine stp F (f_indexS (r := ((adr A).add (k * 1))) rfl rfl Try.underlying23 Try.sizeOf3 (by omega) (by omega) (hl.some_ (by omega)).1 (by rw [show Int.toNat (k : Int) = k from by omega])) rfl rfl rfl (fun ac F => ?_)
      refine stp F (f_load1 (v := .int .i64 (l.getD k 0)) rfl Try.isAgg3 (hl.cell1 (i := k) (by omega) rfl rfl)) rfl rfl rfl (fun ac F => ?_)
      refine stp F (f_assign rfl) rfl rfl rfl (fun ac F => ?_)
      refine stpEnd ?_
      refine H19 _ _ ?_
      refine c_seq (fun K20 H21 => ?_)
      refine c_region ?_
      refine stp F (f_move rfl) rfl rfl rfl (fun ac F => ?_)
      refine stp F (f_move rfl) rfl rfl rfl (fun ac F => ?_)
      refine stp F (f_neq rfl rfl) rfl rfl rfl (fun ac F => ?_)
      refine stpEnd ?_
      refine H21 _ _ ?_
      by_cases hc22 : l.getD k 0 = 0
      · have hc := hc22
        replace F := F.setb (k := 14) (b' := false) rfl (nt (decide_eq_true hc))
        clear hc
        refine c_false F rfl ?_
        refine wp_skip ?_
        refine H17 _ _ ?_
        refine c_region ?_
        refine stp F (f_add (r := ((k + 1 : Nat) : Int)) rfl rfl (by rw [IntKind.wrap_i64]; omega)) rfl rfl rfl (fun ac F => ?_)
        refine stp F (f_move rfl) rfl rfl rfl (fun ac F => ?_)
        refine stpEnd ?_
        refine ⟨l.length - (k + 1), ?_, (k + 1), F.sub ⟨rfl, rfl, rfl, rfl, rfl, trivial⟩, kp0, hl, by omega, orF_next (by omega) hc22 hg, rfl⟩
        omega
      · have hc := hc22
        replace F := F.setb (k := 14) (b' := true) rfl (nf (decide_eq_false hc))
        clear hc
        refine c_true F rfl ?_
        refine c_seq (fun K23 H24 => ?_)
        refine c_region ?_
        refine stp F (f_move rfl) rfl rfl rfl (fun ac F => ?_)
        refine stp F (f_assign rfl) rfl rfl rfl (fun ac F => ?_)
        refine stpEnd ?_
        refine H24 _ _ ?_
        refine wp_ret ?_
        refine ret1 F rfl rfl ?_
        exact ⟨by rw [← hg, orF_stop (by omega) hc22], kp0⟩
    · have hc := hc15
      replace F := F.setb (k := 9) (b' := false) rfl (decide_eq_false hc)
      clear hc
      refine c_false F rfl ?_
      refine wp_exit ?_
      refine H6 _ _ ?_
      refine c_seq (fun K25 H26 => ?_)
      refine c_region ?_
      refine stp F (f_move rfl) rfl rfl rfl (fun ac F => ?_)
      refine stp F (f_assign rfl) rfl rfl rfl (fun ac F => ?_)
      refine stpEnd ?_
      refine H26 _ _ ?_
      refine wp_ret ?_
      refine ret1 F rfl rfl ?_
      exact ⟨by rw [← hg, List.drop_eq_nil_of_le (by omega)]; rfl, kp0⟩

set_option maxHeartbeats 4000000 in
theorem swap_c (g n c a b k : Nat) (d : Array Int) (post : List Value) (fv : Value) (w0 : World) (hd : Blk w0 g 3 (rowI d post)) (hab : a + k ≤ b) (hsn : d.size = n) (hb : b + k ≤ n) (hn : n < 4611686018427387904) : Calls Try.prog 129 #[.slice (some ⟨g, 0, none⟩) n c, .int .i64 (a : Int), .int .i64 (b : Int), .int .i64 (k : Int), fv] w0 (Ret fun v w' => v = .tuple #[] ∧ ∃ d', SwR d d' a b k ∧ PermIn a (b + k) d d' ∧ Kp [g] w0 w' ∧ Blk w' g 3 (rowI d' post)) := by
  refine enter (n := 38) Try.func129 rfl rfl rfl (fun ac F => ?_)
  have kp0 := Kp.refl [g] w0
  have lt0 := hd.lt
  refine c_seq (fun K1 H2 => ?_)
  refine c_region ?_
  refine stp F (f_assign rfl) rfl rfl rfl (fun ac F => ?_)
  refine stpEnd ?_
  refine H2 _ _ ?_
  refine wp_block ?_
  refine c_loop (fun mx ax wx => ∃ (i : Nat), ∃ (dk : Array Int), Fr ax 38 [(0, .slice (some ⟨g, 0, none⟩) n c), (1, .int .i64 (a : Int)), (2, .int .i64 (b : Int)), (3, .int .i64 (k : Int)), (10, .int .i64 (i : Int))] ∧ Kp [g] w0 wx ∧ Blk wx g 3 (rowI dk post) ∧ (i ≤ k) ∧ (SwR d dk a b i) ∧ (PermIn a (b + k) d dk) ∧ (dk.size = d.size) ∧ mx = k - i) (k - 0) ?_ ?_
  · exact ⟨0, d, F.sub ⟨rfl, rfl, rfl, rfl, rfl, trivial⟩, kp0, hd, by omega, SwR.nil _ _ _, permIn_refl _ _ _, rfl, rfl⟩
  · clear F kp0 hd
    rintro m4 ac wl3 ⟨i, dk, F, kp0, hd, hi, hsw, hpm, hsz, hm⟩
    have hsz := kp0.size
    have lt_hd := hd.lt
    refine c_seq (fun K5 H6 => ?_)
    refine c_seq (fun K7 H8 => ?_)
    refine c_region ?_
    refine stp F (f_move rfl) rfl rfl rfl (fun ac F => ?_)
    refine stp F (f_move rfl) rfl rfl rfl (fun ac F => ?_)
    refine stp F (f_lss rfl rfl) rfl rfl rfl (fun ac F => ?_)
    refine stpEnd ?_
    refine H8 _ _ ?_
    by_cases hc9 : (i : Int) < (k : Int)
    · have hc := hc9
      replace F := F.setb (k := 13) (b' := true) rfl (decide_eq_true hc)
      clear hc
      refine c_true F rfl ?_
      refine wp_skip ?_
      refine H6 _ _ ?_
      refine c_seq (fun K10 H11 => ?_)
      refine wp_block ?_
      refine c_draw 24 (by rfl) (by decide +kernel) (fun wx => Kp [] wl3 wx) (Kp.drew _) ?_
      refine tP F rfl (fun wq => f_move rfl) rfl rfl rfl (fun ac F => ?_)
      refine tP F rfl (fun wq => f_move rfl) rfl rfl rfl (fun ac F => ?_)
      refine tP F rfl (fun wq => f_move rfl) rfl rfl rfl (fun ac F => ?_)
      refine tP F rfl (fun wq => f_add (r := ((a + i : Nat) : Int)) rfl rfl (by rw [IntKind.wrap_i64]; omega)) rfl rfl rfl (fun ac F => ?_)
      refine tP F rfl (fun wq => f_move rfl) rfl rfl rfl (fun ac F => ?_)
      refine tP F rfl (fun wq => f_move rfl) rfl rfl rfl (fun ac F => ?_)
      refine tP F rfl (fun wq => f_move rfl) rfl rfl rfl (fun ac F => ?_)
      refine tP F rfl (fun wq => f_add (r := ((b + i : Nat) : Int)) rfl rfl (by rw [IntKind.wrap_i64]; omega)) rfl rfl rfl (fun ac F => ?_)
      refine tP F rfl (fun wq => f_move rfl) rfl rfl rfl (fun ac F => ?_)
      refine tP F rfl (fun wq => f_move rfl) rfl rfl rfl (fun ac F => ?_)
      refine tP F rfl (fun wq => f_move rfl) rfl rfl rfl (fun ac F => ?_)
      refine tP F rfl (fun wq => f_add (r := ((b + i : Nat) : Int)) rfl rfl (by rw [IntKind.wrap_i64]; omega)) rfl rfl rfl (fun ac F => ?_)
      refine tP F rfl (fun wq => f_indexS (r := ⟨g, (b + i) * 1, none⟩) rfl rfl Try.underlying23 Try.sizeOf3 (by omega) (by omega) rfl (add_eq (by omega))) rfl rfl rfl (fun ac F => ?_)
      refine tQ F rfl (fun wq hq => f_load1 (v := .int .i64 (dk[(b + i)]!)) rfl Try.isAgg3 (((hd.keep hq (by simp)).cell _).trans (rowI_get (i := (b + i)) (by (try simp only [Array.size_setIfInBounds]); omega)))) rfl rfl rfl (fun ac F => ?_)
      refine tP F rfl (fun wq => f_move rfl) rfl rfl rfl (fun ac F => ?_)
      refine tP F rfl (fun wq => f_move rfl) rfl rfl rfl (fun ac F => ?_)
      refine tP F rfl (fun wq => f_move rfl) rfl rfl rfl (fun ac F => ?_)
      refine tP F rfl (fun wq => f_add (r := ((a + i : Nat) : Int)) rfl rfl (by rw [IntKind.wrap_i64]; omega)) rfl rfl rfl (fun ac F => ?_)
      refine tP F rfl (fun wq => f_indexS (r := ⟨g, (a + i) * 1, none⟩) rfl rfl Try.underlying23 Try.sizeOf3 (by omega) (by omega) rfl (add_eq (by omega))) rfl rfl rfl (fun ac F => ?_)
      refine tQ F rfl (fun wq hq => f_load1 (v := .int .i64 (dk[(a + i)]!)) rfl Try.isAgg3 (((hd.keep hq (by simp)).cell _).trans (rowI_get (i := (a + i)) (by (try simp only [Array.size_setIfInBounds]); omega)))) rfl rfl rfl (fun ac F => ?_)
      refine tP F rfl (fun wq => f_indexS (r := ⟨g, (a + i) * 1, none⟩) rfl rfl Try.underlying23 Try.sizeOf3 (by omega) (by omega) rfl (add_eq (by omega))) rfl rfl rfl (fun ac F => ?_)
      refine tW (C' := (fun wx => Kp [g] wl3 wx ∧ Blk wx g 3 (rowI (dk.setIfInBounds (a + i) (dk[(b + i)]!)) post))) F rfl (fun wq hq => FiresW.mono (f_store (v := .int .i64 (dk[(b + i)]!)) (vs := [.int .i64 (dk[(b + i)]!)]) rfl rfl (hd.keep hq (by simp)) Try.sizeOf3 rfl rfl (rowI_lt (i := (a + i)) (by (try simp only [Array.size_setIfInBounds]); omega)) (by simp [plainV])) (fun wx h2 => ⟨(hq.mono (M' := [g]) (by simp)).trans h2.kp (by intro x hx _; exact hx), (by have hx_ := h2.blk; rw [rowI_put (i := (a + i)) (by (try simp only [Array.size_setIfInBounds]); omega)] at hx_; exact hx_)⟩)) rfl rfl (fun ac F => ?_)
      refine tP F rfl (fun wq => f_indexS (r := ⟨g, (b + i) * 1, none⟩) rfl rfl Try.underlying23 Try.sizeOf3 (by omega) (by omega) rfl (add_eq (by omega))) rfl rfl rfl (fun ac F => ?_)
      refine tW (C' := (fun wx => Kp [g] wl3 wx ∧ Blk wx g 3 (rowI ((dk.setIfInBounds (a + i) (dk[(b + i)]!)).setIfInBounds (b + i) (dk[(a + i)]!)) post))) F rfl (fun wq hq => FiresW.mono (f_store (v := .int .i64 (dk[(a + i)]!)) (vs := [.int .i64 (dk[(a + i)]!)]) rfl rfl hq.2 Try.sizeOf3 rfl rfl (rowI_lt (i := (b + i)) (by (try simp only [Array.size_setIfInBounds]); omega)) (by simp [plainV])) (fun wx h2 => ⟨hq.1.trans h2.kp (by intro x hx _; exact hx), (by have hx_ := h2.blk; rw [rowI_put (i := (b + i)) (by (try simp only [Array.size_setIfInBounds]); omega)] at hx_; exact hx_)⟩)) rfl rfl (fun ac F => ?_)
      refine tEnd (fun w16 hq => ?_)
      obtain ⟨hq, hn⟩ := hq
      have hsz := hq.size
      replace kp0 := kp0.trans hq (by intro x hx hl; simp at hx ⊢; omega)
      replace hd : Blk w16 g 3 (rowI ((dk.setIfInBounds (a + i) (dk[(b + i)]!)).setIfInBounds (b + i) (dk[(a + i)]!)) post) := hn
      refine H11 _ _ ?_
      refine c_region ?_
      refine stp F (f_move rfl) rfl rfl rfl (fun ac F => ?_)
      refine stp F (f_add (r := ((i + 1 : Nat) : Int)) rfl rfl (by rw [IntKind.wrap_i64]; omega)) rfl rfl rfl (fun ac F => ?_)
      refine stp F (f_assign rfl) rfl rfl rfl (fun ac F => ?_)
      refine stpEnd ?_
      refine ⟨k - (i + 1), ?_, (i + 1), (swp dk (a + i) (b + i)), F.sub ⟨rfl, rfl, rfl, rfl, rfl, trivial⟩, kp0, hd, by omega, hsw.step (by omega) (by omega) (by omega), perm_swp hpm (by omega) (by omega) (by omega) (by omega) (by omega), by rw [size_swp]; omega, rfl⟩
      omega
    · have hc := hc9
      replace F := F.setb (k := 13) (b' := false) rfl (decide_eq_false hc)
      clear hc
      refine c_false F rfl ?_
      refine wp_exit ?_
      refine end_ret ?_
      refine ret0 F rfl ?_
      have e : i = k := by omega
      subst e
      exact ⟨rfl, dk, hsw, hpm, kp0, hd⟩

set_option maxHeartbeats 4000000 in
theorem rot_c (g n c a m b : Nat) (d : Array Int) (post : List Value) (fv : Value) (w0 : World) (hd : Blk w0 g 3 (rowI d post)) (ham : a < m) (hmb : m < b) (hsn : d.size = n) (hb : b ≤ n) (hn : n < 4611686018427387904) : Calls Try.prog 124 #[.slice (some ⟨g, 0, none⟩) n c, .int .i64 (a : Int), .int .i64 (m : Int), .int .i64 (b : Int), fv] w0 (Ret fun v w' => v = .tuple #[] ∧ ∃ d', Rot d d' a m b ∧ PermIn a b d d' ∧ Kp [g] w0 w' ∧ Blk w' g 3 (rowI d' post)) := by
  refine enter (n := 58) Try.func124 rfl rfl rfl (fun ac F => ?_)
  have kp0 := Kp.refl [g] w0
  have lt0 := hd.lt
  refine c_seq (fun K1 H2 => ?_)
  refine c_region ?_
  refine stp F (f_move rfl) rfl rfl rfl (fun ac F => ?_)
  refine stp F (f_move rfl) rfl rfl rfl (fun ac F => ?_)
  refine stp F (f_sub (r := ((m - a : Nat) : Int)) rfl rfl (by rw [IntKind.wrap_i64]; omega)) rfl rfl rfl (fun ac F => ?_)
  refine stp F (f_assign rfl) rfl rfl rfl (fun ac F => ?_)
  refine stpEnd ?_
  refine H2 _ _ ?_
  refine c_seq (fun K3 H4 => ?_)
  refine c_region ?_
  refine stp F (f_move rfl) rfl rfl rfl (fun ac F => ?_)
  refine stp F (f_move rfl) rfl rfl rfl (fun ac F => ?_)
  refine stp F (f_sub (r := ((b - m : Nat) : Int)) rfl rfl (by rw [IntKind.wrap_i64]; omega)) rfl rfl rfl (fun ac F => ?_)
  refine stp F (f_assign rfl) rfl rfl rfl (fun ac F => ?_)
  refine stpEnd ?_
  refine H4 _ _ ?_
  refine c_seq (fun K5 H6 => ?_)
  refine wp_block ?_
  refine c_loop (fun mx ax wx => ∃ (i : Nat), ∃ (j : Nat), ∃ (dk : Array Int), Fr ax 58 [(0, .slice (some ⟨g, 0, none⟩) n c), (2, .int .i64 (m : Int)), (4, fv), (10, .int .i64 (i : Int)), (11, .int .i64 (j : Int))] ∧ Kp [g] w0 wx ∧ Blk wx g 3 (rowI dk post) ∧ (1 ≤ i) ∧ (1 ≤ j) ∧ (i ≤ m - a) ∧ (j ≤ b - m) ∧ (dk.size = d.size) ∧ (PermIn a b d dk) ∧ (∀ d', Rot dk d' (m - i) m (m + j) → Rot d d' a m b) ∧ mx = i + j) ((m - a) + (b - m)) ?_ ?_
  · exact ⟨(m - a), (b - m), d, F.sub ⟨rfl, rfl, rfl, rfl, rfl, trivial⟩, kp0, hd, by omega, by omega, by omega, by omega, rfl, permIn_refl _ _ _, fun d' hr => Rot.start hr (by omega) (by omega), rfl⟩
  · clear F kp0 hd
    rintro m8 ac wl7 ⟨i, j, dk, F, kp0, hd, hi, hj, hi2, hj2, hsz, hpm, hrot, hm⟩
    have hsz := kp0.size
    have lt_hd := hd.lt
    refine c_seq (fun K9 H10 => ?_)
    refine c_seq (fun K11 H12 => ?_)
    refine c_region ?_
    refine stp F (f_move rfl) rfl rfl rfl (fun ac F => ?_)
    refine stp F (f_move rfl) rfl rfl rfl (fun ac F => ?_)
    refine stp F (f_neq rfl rfl) rfl rfl rfl (fun ac F => ?_)
    refine stpEnd ?_
    refine H12 _ _ ?_
    by_cases hc13 : (i : Int) = (j : Int)
    · have hc := hc13
      replace F := F.setb (k := 20) (b' := false) rfl (nt (decide_eq_true hc))
      clear hc
      refine c_false F rfl ?_
      refine wp_exit ?_
      refine H6 _ _ ?_
      refine c_region ?_
      refine stp F (f_move rfl) rfl rfl rfl (fun ac F => ?_)
      refine stp F (f_move rfl) rfl rfl rfl (fun ac F => ?_)
      refine stp F (f_move rfl) rfl rfl rfl (fun ac F => ?_)
      refine stp F (f_sub (r := ((m - i : Nat) : Int)) rfl rfl (by rw [IntKind.wrap_i64]; omega)) rfl rfl rfl (fun ac F => ?_)
      refine stp F (f_move rfl) rfl rfl rfl (fun ac F => ?_)
      refine stp F (f_move rfl) rfl rfl rfl (fun ac F => ?_)
      refine stp F (f_move rfl) rfl rfl rfl (fun ac F => ?_)
      refine stpC F (f_call (P := Try.prog) (f := 129) (vs := [.slice (some ⟨g, 0, none⟩) n c, .int .i64 ((m - i : Nat) : Int), .int .i64 (m : Int), .int .i64 (i : Int), fv]) rfl Try.call129) (swap_c g n _ (m - i) (m) (i) dk post fv _ hd (by omega) (by omega) (by omega) (by omega)) rfl rfl rfl ?_
      rintro _ w14 ac ⟨rfl, d17, hsw18, hpm19, kq15, hq16⟩ F
      have hsz := (kq15).size
      replace kp0 := kp0.trans (kq15) (by intro x hx hl; simp at hx ⊢; omega)
      replace hd : Blk w14 g 3 (rowI d17 post) := hq16
      have hszd17 := hsw18.1
      refine stpEnd ?_
      refine end_ret ?_
      refine ret0 F rfl ?_
      have e : i = j := by omega
      subst e
      exact ⟨rfl, d17, hrot _ (Rot.same hsw18 (by omega)), perm_more hpm hpm19 (by omega) (by omega) (by omega), kp0, hd⟩
    · have hc := hc13
      replace F := F.setb (k := 20) (b' := true) rfl (nf (decide_eq_false hc))
      clear hc
      refine c_true F rfl ?_
      refine wp_skip ?_
      refine H10 _ _ ?_
      refine wp_block ?_
      refine c_seq (fun K20 H21 => ?_)
      refine c_region ?_
      refine stp F (f_move rfl) rfl rfl rfl (fun ac F => ?_)
      refine stp F (f_move rfl) rfl rfl rfl (fun ac F => ?_)
      refine stp F (f_gtr rfl rfl) rfl rfl rfl (fun ac F => ?_)
      refine stpEnd ?_
      refine H21 _ _ ?_
      by_cases hc22 : (j : Int) < (i : Int)
      · have hc := hc22
        replace F := F.setb (k := 23) (b' := true) rfl (decide_eq_true hc)
        clear hc
        refine c_true F rfl ?_
        refine c_seq (fun K23 H24 => ?_)
        refine c_region ?_
        refine stp F (f_move rfl) rfl rfl rfl (fun ac F => ?_)
        refine stp F (f_move rfl) rfl rfl rfl (fun ac F => ?_)
        refine stp F (f_move rfl) rfl rfl rfl (fun ac F => ?_)
        refine stp F (f_sub (r := ((m - i : Nat) : Int)) rfl rfl (by rw [IntKind.wrap_i64]; omega)) rfl rfl rfl (fun ac F => ?_)
        refine stp F (f_move rfl) rfl rfl rfl (fun ac F => ?_)
        refine stp F (f_move rfl) rfl rfl rfl (fun ac F => ?_)
        refine stp F (f_move rfl) rfl rfl rfl (fun ac F => ?_)
        refine stpC F (f_call (P := Try.prog) (f := 129) (vs := [.slice (some ⟨g, 0, none⟩) n c, .int .i64 ((m - i : Nat) : Int), .int .i64 (m : Int), .int .i64 (j : Int), fv]) rfl Try.call129) (swap_c g n _ (m - i) (m) (j) dk post fv _ hd (by omega) (by omega) (by omega) (by omega)) rfl rfl rfl ?_
        rintro _ w25 ac ⟨rfl, d28, hsw29, hpm30, kq26, hq27⟩ F
        have hsz := (kq26).size
        replace kp0 := kp0.trans (kq26) (by intro x hx hl; simp at hx ⊢; omega)
        replace hd : Blk w25 g 3 (rowI d28 post) := hq27
        have hszd28 := hsw29.1
        refine stpEnd ?_
        refine H24 _ _ ?_
        refine c_region ?_
        refine stp F (f_move rfl) rfl rfl rfl (fun ac F => ?_)
        refine stp F (f_move rfl) rfl rfl rfl (fun ac F => ?_)
        refine stp F (f_sub (r := ((i - j : Nat) : Int)) rfl rfl (by rw [IntKind.wrap_i64]; omega)) rfl rfl rfl (fun ac F => ?_)
        refine stp F (f_assign rfl) rfl rfl rfl (fun ac F => ?_)
        refine stpEnd ?_
        refine ⟨(i - j) + j, ?_, (i - j), j, d28, F.sub ⟨rfl, rfl, rfl, rfl, rfl, trivial⟩, kp0, hd, by omega, by omega, by omega, by omega, by omega, perm_more hpm hpm30 (by omega) (by omega) (by omega), fun d' hr => hrot d' (Rot.big hsw29 (by omega) (by omega) hr), rfl⟩
        omega
      · have hc := hc22
        replace F := F.setb (k := 23) (b' := false) rfl (decide_eq_false hc)
        clear hc
        refine c_false F rfl ?_
        refine c_seq (fun K31 H32 => ?_)
        refine c_region ?_
        refine stp F (f_move rfl) rfl rfl rfl (fun ac F => ?_)
        refine stp F (f_move rfl) rfl rfl rfl (fun ac F => ?_)
        refine stp F (f_move rfl) rfl rfl rfl (fun ac F => ?_)
        refine stp F (f_sub (r := ((m - i : Nat) : Int)) rfl rfl (by rw [IntKind.wrap_i64]; omega)) rfl rfl rfl (fun ac F => ?_)
        refine stp F (f_move rfl) rfl rfl rfl (fun ac F => ?_)
        refine stp F (f_move rfl) rfl rfl rfl (fun ac F => ?_)
        refine stp F (f_add (r := ((m + j : Nat) : Int)) rfl rfl (by rw [IntKind.wrap_i64]; omega)) rfl rfl rfl (fun ac F => ?_)
        refine stp F (f_move rfl) rfl rfl rfl (fun ac F => ?_)
        refine stp F (f_sub (r := ((m + j - i : Nat) : Int)) rfl rfl (by rw [IntKind.wrap_i64]; omega)) rfl rfl rfl (fun ac F => ?_)
        refine stp F (f_move rfl) rfl rfl rfl (fun ac F => ?_)
        refine stp F (f_move rfl) rfl rfl rfl (fun ac F => ?_)
        refine stpC F (f_call (P := Try.prog) (f := 129) (vs := [.slice (some ⟨g, 0, none⟩) n c, .int .i64 ((m - i : Nat) : Int), .int .i64 ((m + j - i : Nat) : Int), .int .i64 (i : Int), fv]) rfl Try.call129) (swap_c g n _ (m - i) (m + j - i) (i) dk post fv _ hd (by omega) (by omega) (by omega) (by omega)) rfl rfl rfl ?_
        rintro _ w33 ac ⟨rfl, d36, hsw37, hpm38, kq34, hq35⟩ F
        have hsz := (kq34).size
        replace kp0 := kp0.trans (kq34) (by intro x hx hl; simp at hx ⊢; omega)
        replace hd : Blk w33 g 3 (rowI d36 post) := hq35
        have hszd36 := hsw37.1
        refine stpEnd ?_
        refine H32 _ _ ?_
        refine c_region ?_
        refine stp F (f_move rfl) rfl rfl rfl (fun ac F => ?_)
        refine stp F (f_move rfl) rfl rfl rfl (fun ac F => ?_)
        refine stp F (f_sub (r := ((j - i : Nat) : Int)) rfl rfl (by rw [IntKind.wrap_i64]; omega)) rfl rfl rfl (fun ac F => ?_)
        refine stp F (f_assign rfl) rfl rfl rfl (fun ac F => ?_)
        refine stpEnd ?_
        refine ⟨i + (j - i), ?_, i, (j - i), d36, F.sub ⟨rfl, rfl, rfl, rfl, rfl, trivial⟩, kp0, hd, by omega, by omega, by omega, by omega, by omega, perm_more hpm hpm38 (by omega) (by omega) (by omega), fun d' hr => hrot d' (Rot.small hsw37 (by omega) (by omega) hr), rfl⟩
        omega

end Go.Proofs.Ytkbngaollbmcbaa.KK

namespace Go.Proofs.Ytkbngaollbmcbaa.KK
open Go Go.RowKit Go.Sort

set_option maxHeartbeats 4000000 in
theorem ins_c (g n c a b fc : Nat) (d : Array Int) (post : List Value) (cb : Array Value) (cf : Int → Int → Int) (ok : Int → Prop) (w0 : World) (hd : Blk w0 g 3 (rowI d post)) (hE : Ent Try.prog fc) (hC : CmpC Try.prog g fc cb cf ok w0) (hok : Okk ok d) (hsn : d.size = n) (hn : n < 4611686018427387904) (hab : a ≤ b) (hb : b ≤ n) : Calls Try.prog 100 #[.slice (some ⟨g, 0, none⟩) n c, .int .i64 (a : Int), .int .i64 (b : Int), .func (.func fc) #[] cb] w0 (Ret fun v w' => v = .tuple #[] ∧ Kp [g] w0 w' ∧ Blk w' g 3 (rowI (insertionSort (ltC cf) d a b) post)) := by
  refine enter (n := 53) Try.func100 rfl rfl rfl (fun ac F => ?_)
  have kp0 := Kp.refl [g] w0
  have lt0 := hd.lt
  refine c_seq (fun K1 H2 => ?_)
  refine c_region ?_
  refine stp F (f_move rfl) rfl rfl rfl (fun ac F => ?_)
  refine stp F (f_add (r := ((a + 1 : Nat) : Int)) rfl rfl (by rw [IntKind.wrap_i64]; omega)) rfl rfl rfl (fun ac F => ?_)
  refine stp F (f_assign rfl) rfl rfl rfl (fun ac F => ?_)
  refine stpEnd ?_
  refine H2 _ _ ?_
  refine wp_block ?_
  refine c_loop (fun mx ax wx => ∃ (i : Nat), ∃ (dk : Array Int), Fr ax 53 [(0, .slice (some ⟨g, 0, none⟩) n c), (1, .int .i64 (a : Int)), (2, .int .i64 (b : Int)), (3, .func (.func fc) #[] cb), (8, .int .i64 (i : Int))] ∧ Kp [g] w0 wx ∧ Blk wx g 3 (rowI dk post) ∧ (a < i) ∧ (i ≤ b + 1) ∧ (dk.size = d.size) ∧ (Okk ok dk) ∧ (insOuter (ltC cf) a b i dk = insOuter (ltC cf) a b (a + 1) d) ∧ mx = b + 1 - i) (b + 1 - (a + 1)) ?_ ?_
  · exact ⟨(a + 1), d, F.sub ⟨rfl, rfl, rfl, rfl, rfl, trivial⟩, kp0, hd, by omega, by omega, rfl, hok, rfl, rfl⟩
  · clear F kp0 hd
    rintro m4 ac wl3 ⟨i, dk, F, kp0, hd, hai, hib, hsk, hokk, hg, hm⟩
    have hsz := kp0.size
    have lt_hd := hd.lt
    refine c_seq (fun K5 H6 => ?_)
    refine c_seq (fun K7 H8 => ?_)
    refine c_region ?_
    refine stp F (f_move rfl) rfl rfl rfl (fun ac F => ?_)
    refine stp F (f_move rfl) rfl rfl rfl (fun ac F => ?_)
    refine stp F (f_lss rfl rfl) rfl rfl rfl (fun ac F => ?_)
    refine stpEnd ?_
    refine H8 _ _ ?_
    by_cases hc9 : (i : Int) < (b : Int)
    · have hc := hc9
      replace F := F.setb (k := 14) (b' := true) rfl (decide_eq_true hc)
      clear hc
      refine c_true F rfl ?_
      refine wp_skip ?_
      refine H6 _ _ ?_
      refine c_seq (fun K10 H11 => ?_)
      refine wp_block ?_
      refine c_seq (fun K12 H13 => ?_)
      refine c_region ?_
      refine stp F (f_move rfl) rfl rfl rfl (fun ac F => ?_)
      refine stp F (f_assign rfl) rfl rfl rfl (fun ac F => ?_)
      refine stpEnd ?_
      refine H13 _ _ ?_
      refine wp_block ?_
      refine c_loop (fun mx ax wx => ∃ (j : Nat), ∃ (dj : Array Int), Fr ax 53 [(0, .slice (some ⟨g, 0, none⟩) n c), (1, .int .i64 (a : Int)), (2, .int .i64 (b : Int)), (3, .func (.func fc) #[] cb), (8, .int .i64 (i : Int)), (9, .int .i64 (j : Int))] ∧ Kp [g] w0 wx ∧ Blk wx g 3 (rowI dj post) ∧ (a ≤ j) ∧ (j ≤ i) ∧ (dj.size = d.size) ∧ (Okk ok dj) ∧ (insInner (ltC cf) a j dj = insInner (ltC cf) a i dk) ∧ mx = j) (i) ?_ ?_
      · exact ⟨i, dk, F.sub ⟨rfl, rfl, rfl, rfl, rfl, rfl, trivial⟩, kp0, hd, by omega, by omega, hsk, hokk, rfl, rfl⟩
      · clear F kp0 hd
        rintro m15 ac wl14 ⟨j, dj, F, kp0, hd, haj, hji, hsj, hokj, hgj, hm⟩
        have hsz := kp0.size
        have lt_hd := hd.lt
        refine c_seq (fun K16 H17 => ?_)
        refine c_seq (fun K18 H19 => ?_)
        refine c_draw 17 (by rfl) (by decide +kernel) (fun wx => Kp [] wl14 wx) (Kp.drew _) ?_
        refine tP F rfl (fun wq => f_move rfl) rfl rfl rfl (fun ac F => ?_)
        refine tP F rfl (fun wq => f_move rfl) rfl rfl rfl (fun ac F => ?_)
        refine tP F rfl (fun wq => f_gtr rfl rfl) rfl rfl rfl (fun ac F => ?_)
        refine tP F rfl (fun wq => f_move rfl) rfl rfl rfl (fun ac F => ?_)
        by_cases hc20 : (a : Int) < (j : Int)
        · have hc := hc20
          replace F := F.setb (k := 20) (b' := true) rfl (decide_eq_true hc)
          replace F := F.setb (k := 21) (b' := true) rfl (decide_eq_true hc)
          clear hc
          refine tP F rfl (fun wq => f_move rfl) rfl rfl rfl (fun ac F => ?_)
          refine tP F rfl (fun wq => f_move rfl) rfl rfl rfl (fun ac F => ?_)
          refine tP F rfl (fun wq => f_move rfl) rfl rfl rfl (fun ac F => ?_)
          refine tP F rfl (fun wq => f_indexS (r := ⟨g, j * 1, none⟩) rfl rfl Try.underlying23 Try.sizeOf3 (by omega) (by omega) rfl (add_eq (by omega))) rfl rfl rfl (fun ac F => ?_)
          refine tQ F rfl (fun wq hq => f_load1 (v := .int .i64 (dj[j]!)) rfl Try.isAgg3 (((hd.keep hq (by simp)).cell _).trans (rowI_get (i := j) (by (try simp only [Array.size_setIfInBounds]); omega)))) rfl rfl rfl (fun ac F => ?_)
          refine tP F rfl (fun wq => f_move rfl) rfl rfl rfl (fun ac F => ?_)
          refine tP F rfl (fun wq => f_move rfl) rfl rfl rfl (fun ac F => ?_)
          refine tP F rfl (fun wq => f_sub (r := ((j - 1 : Nat) : Int)) rfl rfl (by rw [IntKind.wrap_i64]; omega)) rfl rfl rfl (fun ac F => ?_)
          refine tP F rfl (fun wq => f_indexS (r := ⟨g, (j - 1) * 1, none⟩) rfl rfl Try.underlying23 Try.sizeOf3 (by omega) (by omega) rfl (add_eq (by omega))) rfl rfl rfl (fun ac F => ?_)
          refine tQ F rfl (fun wq hq => f_load1 (v := .int .i64 (dj[(j - 1)]!)) rfl Try.isAgg3 (((hd.keep hq (by simp)).cell _).trans (rowI_get (i := (j - 1)) (by (try simp only [Array.size_setIfInBounds]); omega)))) rfl rfl rfl (fun ac F => ?_)
          refine tC F rfl (fun wq => f_callV (vs := [.int .i64 (dj[j]!), .int .i64 (dj[(j - 1)]!)]) rfl rfl hE) (fun wq hq => (hC _ _ _ (kp0.trans hq (by simp)) (hokj (j) (by omega)) (hokj ((j - 1)) (by omega))).mono fun e w h => by cases e <;> first | exact ⟨h.1, hq.trans h.2 (by simp)⟩ | exact h.elim) rfl rfl rfl (fun ac F => ?_)
          refine tP F rfl (fun wq => f_lss rfl rfl) rfl rfl rfl (fun ac F => ?_)
          refine tP F rfl (fun wq => f_pickT rfl rfl) rfl rfl rfl (fun ac F => ?_)
          refine tEnd (fun w21 hq => ?_)
          have hsz := hq.size
          replace hd := hd.keep hq (by simp)
          replace kp0 := kp0.trans hq (by simp)
          refine H19 _ _ ?_
          by_cases hc22 : cf (dj[j]!) (dj[(j - 1)]!) < 0
          · have hc := hc22
            replace F := F.setb (k := 33) (b' := true) rfl (decide_eq_true hc)
            replace F := F.setb (k := 34) (b' := true) rfl (decide_eq_true hc)
            clear hc
            refine c_true F rfl ?_
            refine wp_skip ?_
            refine H17 _ _ ?_
            refine c_seq (fun K23 H24 => ?_)
            refine wp_block ?_
            refine c_draw 18 (by rfl) (by decide +kernel) (fun wx => Kp [] w21 wx) (Kp.drew _) ?_
            refine tP F rfl (fun wq => f_move rfl) rfl rfl rfl (fun ac F => ?_)
            refine tP F rfl (fun wq => f_move rfl) rfl rfl rfl (fun ac F => ?_)
            refine tP F rfl (fun wq => f_move rfl) rfl rfl rfl (fun ac F => ?_)
            refine tP F rfl (fun wq => f_move rfl) rfl rfl rfl (fun ac F => ?_)
            refine tP F rfl (fun wq => f_sub (r := ((j - 1 : Nat) : Int)) rfl rfl (by rw [IntKind.wrap_i64]; omega)) rfl rfl rfl (fun ac F => ?_)
            refine tP F rfl (fun wq => f_move rfl) rfl rfl rfl (fun ac F => ?_)
            refine tP F rfl (fun wq => f_move rfl) rfl rfl rfl (fun ac F => ?_)
            refine tP F rfl (fun wq => f_sub (r := ((j - 1 : Nat) : Int)) rfl rfl (by rw [IntKind.wrap_i64]; omega)) rfl rfl rfl (fun ac F => ?_)
            refine tP F rfl (fun wq => f_indexS (r := ⟨g, (j - 1) * 1, none⟩) rfl rfl Try.underlying23 Try.sizeOf3 (by omega) (by omega) rfl (add_eq (by omega))) rfl rfl rfl (fun ac F => ?_)
            refine tQ F rfl (fun wq hq => f_load1 (v := .int .i64 (dj[(j - 1)]!)) rfl Try.isAgg3 (((hd.keep hq (by simp)).cell _).trans (rowI_get (i := (j - 1)) (by (try simp only [Array.size_setIfInBounds]); omega)))) rfl rfl rfl (fun ac F => ?_)
            refine tP F rfl (fun wq => f_move rfl) rfl rfl rfl (fun ac F => ?_)
            refine tP F rfl (fun wq => f_move rfl) rfl rfl rfl (fun ac F => ?_)
            refine tP F rfl (fun wq => f_indexS (r := ⟨g, j * 1, none⟩) rfl rfl Try.underlying23 Try.sizeOf3 (by omega) (by omega) rfl (add_eq (by omega))) rfl rfl rfl (fun ac F => ?_)
            refine tQ F rfl (fun wq hq => f_load1 (v := .int .i64 (dj[j]!)) rfl Try.isAgg3 (((hd.keep hq (by simp)).cell _).trans (rowI_get (i := j) (by (try simp only [Array.size_setIfInBounds]); omega)))) rfl rfl rfl (fun ac F => ?_)
            refine tP F rfl (fun wq => f_indexS (r := ⟨g, j * 1, none⟩) rfl rfl Try.underlying23 Try.sizeOf3 (by omega) (by omega) rfl (add_eq (by omega))) rfl rfl rfl (fun ac F => ?_)
            refine tW (C' := (fun wx => Kp [g] w21 wx ∧ Blk wx g 3 (rowI (dj.setIfInBounds j (dj[(j - 1)]!)) post))) F rfl (fun wq hq => FiresW.mono (f_store (v := .int .i64 (dj[(j - 1)]!)) (vs := [.int .i64 (dj[(j - 1)]!)]) rfl rfl (hd.keep hq (by simp)) Try.sizeOf3 rfl rfl (rowI_lt (i := j) (by (try simp only [Array.size_setIfInBounds]); omega)) (by simp [plainV])) (fun wx h2 => ⟨(hq.mono (M' := [g]) (by simp)).trans h2.kp (by intro x hx _; exact hx), (by have hx_ := h2.blk; rw [rowI_put (i := j) (by (try simp only [Array.size_setIfInBounds]); omega)] at hx_; exact hx_)⟩)) rfl rfl (fun ac F => ?_)
            refine tP F rfl (fun wq => f_indexS (r := ⟨g, (j - 1) * 1, none⟩) rfl rfl Try.underlying23 Try.sizeOf3 (by omega) (by omega) rfl (add_eq (by omega))) rfl rfl rfl (fun ac F => ?_)
            refine tW (C' := (fun wx => Kp [g] w21 wx ∧ Blk wx g 3 (rowI ((dj.setIfInBounds j (dj[(j - 1)]!)).setIfInBounds (j - 1) (dj[j]!)) post))) F rfl (fun wq hq => FiresW.mono (f_store (v := .int .i64 (dj[j]!)) (vs := [.int .i64 (dj[j]!)]) rfl rfl hq.2 Try.sizeOf3 rfl rfl (rowI_lt (i := (j - 1)) (by (try simp only [Array.size_setIfInBounds]); omega)) (by simp [plainV])) (fun wx h2 => ⟨hq.1.trans h2.kp (by intro x hx _; exact hx), (by have hx_ := h2.blk; rw [rowI_put (i := (j - 1)) (by (try simp only [Array.size_setIfInBounds]); omega)] at hx_; exact hx_)⟩)) rfl rfl (fun ac F => ?_)
            refine tEnd (fun w29 hq => ?_)
            obtain ⟨hq, hn⟩ := hq
            have hsz := hq.size
            replace kp0 := kp0.trans hq (by intro x hx hl; simp at hx ⊢; omega)
            replace hd : Blk w29 g 3 (rowI ((dj.setIfInBounds j (dj[(j - 1)]!)).setIfInBounds (j - 1) (dj[j]!)) post) := hn
            refine H24 _ _ ?_
            refine c_region ?_
            refine stp F (f_move rfl) rfl rfl rfl (fun ac F => ?_)
            refine stp F (f_sub (r := ((j - 1 : Nat) : Int)) rfl rfl (by rw [IntKind.wrap_i64]; omega)) rfl rfl rfl (fun ac F => ?_)
            refine stp F (f_assign rfl) rfl rfl rfl (fun ac F => ?_)
            refine stpEnd ?_
            refine ⟨(j - 1), ?_, (j - 1), (swp dj j (j - 1)), F.sub ⟨rfl, rfl, rfl, rfl, rfl, rfl, trivial⟩, kp0, hd, by omega, by omega, by rw [size_swp]; exact hsj, hokj.swp (by omega) (by omega), by rw [← hgj, insI_go a j dj (by omega) (decide_eq_true hc22)], rfl⟩
            omega
          · have hc := hc22
            replace F := F.setb (k := 33) (b' := false) rfl (decide_eq_false hc)
            replace F := F.setb (k := 34) (b' := false) rfl (decide_eq_false hc)
            clear hc
            refine c_false F rfl ?_
            refine wp_exit ?_
            refine H11 _ _ ?_
            refine c_region ?_
            refine stp F (f_move rfl) rfl rfl rfl (fun ac F => ?_)
            refine stp F (f_add (r := ((i + 1 : Nat) : Int)) rfl rfl (by rw [IntKind.wrap_i64]; omega)) rfl rfl rfl (fun ac F => ?_)
            refine stp F (f_assign rfl) rfl rfl rfl (fun ac F => ?_)
            refine stpEnd ?_
            refine ⟨b + 1 - (i + 1), ?_, (i + 1), dj, F.sub ⟨rfl, rfl, rfl, rfl, rfl, trivial⟩, kp0, hd, by omega, by omega, hsj, hokj, by rw [← hg, insO_go a b i dk (by omega), ← hgj, insI_stop a j dj (Or.inr (decide_eq_false hc22))], rfl⟩
            omega
        · have hc := hc20
          replace F := F.setb (k := 20) (b' := false) rfl (decide_eq_false hc)
          replace F := F.setb (k := 21) (b' := false) rfl (decide_eq_false hc)
          clear hc
          refine tN F rfl rfl rfl (fun ac F => ?_)
          refine tN F rfl rfl rfl (fun ac F => ?_)
          refine tN F rfl rfl rfl (fun ac F => ?_)
          refine tN F rfl rfl rfl (fun ac F => ?_)
          refine tN F rfl rfl rfl (fun ac F => ?_)
          refine tN F rfl rfl rfl (fun ac F => ?_)
          refine tN F rfl rfl rfl (fun ac F => ?_)
          refine tN F rfl rfl rfl (fun ac F => ?_)
          refine tN F rfl rfl rfl (fun ac F => ?_)
          refine tN F rfl rfl rfl (fun ac F => ?_)
          refine tN F rfl rfl rfl (fun ac F => ?_)
          refine tN F rfl rfl rfl (fun ac F => ?_)
          refine tP F rfl (fun wq => f_pickF rfl rfl) rfl rfl rfl (fun ac F => ?_)
          refine tEnd (fun w30 hq => ?_)
          have hsz := hq.size
          replace hd := hd.keep hq (by simp)
          replace kp0 := kp0.trans hq (by simp)
          refine H19 _ _ ?_
          refine c_false F rfl ?_
          refine wp_exit ?_
          refine H11 _ _ ?_
          refine c_region ?_
          refine stp F (f_move rfl) rfl rfl rfl (fun ac F => ?_)
          refine stp F (f_add (r := ((i + 1 : Nat) : Int)) rfl rfl (by rw [IntKind.wrap_i64]; omega)) rfl rfl rfl (fun ac F => ?_)
          refine stp F (f_assign rfl) rfl rfl rfl (fun ac F => ?_)
          refine stpEnd ?_
          refine ⟨b + 1 - (i + 1), ?_, (i + 1), dj, F.sub ⟨rfl, rfl, rfl, rfl, rfl, trivial⟩, kp0, hd, by omega, by omega, hsj, hokj, by rw [← hg, insO_go a b i dk (by omega), ← hgj, insI_stop a j dj (Or.inl (by omega))], rfl⟩
          omega
    · have hc := hc9
      replace F := F.setb (k := 14) (b' := false) rfl (decide_eq_false hc)
      clear hc
      refine c_false F rfl ?_
      refine wp_exit ?_
      refine end_ret ?_
      refine ret0 F rfl ?_
      exact ⟨rfl, kp0, by unfold insertionSort; rw [← hg, insO_stop a b i dk (by omega)]; exact hd⟩

end Go.Proofs.Ytkbngaollbmcbaa.KK
