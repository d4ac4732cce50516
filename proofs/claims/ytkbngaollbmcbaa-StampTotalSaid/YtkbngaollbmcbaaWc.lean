/- What the proof leans on: rules for a walk through the code, walks of functions, and plain laws. No condition. -/
import Derived.Test.YtkbngaollbmcbaaWa
import Derived.Test.YtkbngaollbmcbaaKb
import Derived.Test.YtkbngaollbmcbaaProg
import Derived.Test.YtkbngaollbmcbaaWb

namespace Go.Proofs.Ytkbngaollbmcbaa.KK
open Go Go.RowKit

set_option maxHeartbeats 4000000 in
theorem ahead_c (A : Option Addr) (c : Nat) (h : List Ev) (R : Nat → Nat → Prop) (hRt : ∀ x y z, R x y → R y z → R x z) (hRb : checkF h = 0 → ∀ a b, a < b → b < h.length → Edge h a b → R a b) (w0 : World) (hh : Sl w0 0 w0.heap.size 3 A h.length c (evv h)) : Calls Try.prog 9 #[.slice A h.length c] w0 (Ret fun v w' => ∃ A' c' , ∃ ps : List (Nat × Nat), v = .tuple #[.slice A' ps.length c', .int .i64 (checkF h)] ∧ Kp [] w0 w' ∧ Sl w' 0 w'.heap.size 2 A' ps.length c' (fun k => pv (ps.getD k default)) ∧ (checkF h = 0 → ∀ p ∈ ps, p.1 < h.length ∧ p.2 < h.length ∧ R p.1 p.2) ∧ ps.length ≤ 3600) := by
  refine enter (n := 129) Try.func9 rfl rfl rfl (fun ac F => ?_)
  have kp0 := Kp.refl ([] : List Nat) w0
  refine c_seq (fun K1 H2 => ?_)
  refine c_region ?_
  refine stp F (f_assign rfl) rfl rfl rfl (fun ac F => ?_)
  refine stp F (f_assign rfl) rfl rfl rfl (fun ac F => ?_)
  refine stpEnd ?_
  refine H2 _ _ ?_
  refine c_seq (fun K3 H4 => ?_)
  refine c_seq (fun K5 H6 => ?_)
  refine c_region ?_
  refine stp F (f_move rfl) rfl rfl rfl (fun ac F => ?_)
  refine stpC F (f_call (P := Try.prog) (f := 44) (vs := [.slice A h.length c]) rfl Try.call44) (check_c _ _ _ _ (hh.more (Nat.zero_le _) (by omega))) rfl rfl rfl ?_
  rintro _ w7 ac ⟨rfl, kq8⟩ F
  have hsz := (kq8).size
  replace hh := hh.keep (kq8) (by simp)
  replace kp0 := kp0.trans (kq8) (by simp)
  refine stp F (f_assign rfl) rfl rfl rfl (fun ac F => ?_)
  refine stpEnd ?_
  refine H6 _ _ ?_
  refine c_seq (fun K9 H10 => ?_)
  refine c_region ?_
  refine stp F (f_move rfl) rfl rfl rfl (fun ac F => ?_)
  refine stp F (f_neq rfl rfl) rfl rfl rfl (fun ac F => ?_)
  refine stpEnd ?_
  refine H10 _ _ ?_
  by_cases hc11 : checkF h = 0
  · have hc := hc11
    replace F := F.setb (k := 18) (b' := false) rfl (nt (decide_eq_true hc))
    clear hc
    refine c_false F rfl ?_
    refine wp_skip ?_
    refine H4 _ _ ?_
    refine c_seq (fun K12 H13 => ?_)
    have hcode : checkF h = 0 := hc11
    have h60 := (checkF_ok hcode).1
    skip
    refine c_region ?_
    refine stp F (f_move rfl) rfl rfl rfl (fun ac F => ?_)
    refine stp F (f_len rfl Try.underlying22) rfl rfl rfl (fun ac F => ?_)
    refine stpE F (f_makeSlice (m := h.length) (z := .slice none 0 0) (i := Try.t93) rfl rfl Try.underlying92 (by kernel_rfl) (by kernel_rfl) rfl rfl (by show 24 * _ ≤ _; omega) (by omega)) rfl rfl rfl ?_
    rintro _ w15 ac ⟨g14, rfl, nb16⟩ F
    have n18 := nb16.num
    have z19 := nb16.size
    have hsz := (nb16.kp).size
    replace hh := hh.keep (nb16.kp) (by simp)
    replace kp0 := kp0.trans (nb16.kp) (by simp)
    have hb17 : Blk w15 g14 93 (List.replicate h.length (.slice none 0 0)) := nb16.blk
    refine stp F (f_assign rfl) rfl rfl rfl (fun ac F => ?_)
    refine stpEnd ?_
    obtain ⟨gr0, hgr0⟩ : ∃ f : Nat → Nat, f = f := ⟨fun _ => 0, rfl⟩
    obtain ⟨M0, hM0⟩ : ∃ f : Nat → Nat → Bool, f = f := ⟨fun _ _ => false, rfl⟩
    have hmat : Mat 93 4 w15 w7.heap.size w15.heap.size g14 h.length gr0 0 M0 := Mat.start hb17 (by omega) gr0 M0
    have hlo : w0.heap.size ≤ w7.heap.size := by omega
    refine H13 _ _ ?_
    refine c_seq (fun K20 H21 => ?_)
    refine c_seq (fun K22 H23 => ?_)
    refine c_region ?_
    refine stp F (f_move rfl) rfl rfl rfl (fun ac F => ?_)
    refine stp F (f_len rfl Try.underlying22) rfl rfl rfl (fun ac F => ?_)
    refine stp F (f_move rfl) rfl rfl rfl (fun ac F => ?_)
    refine stpEnd ?_
    refine H23 _ _ ?_
    refine wp_block ?_
    refine c_loop (fun mx ax wx => ∃ (b : Nat), ∃ (gr : Nat → Nat), ∃ (M : Nat → Nat → Bool), ∃ (hi : Nat), Fr ax 129 [(0, .slice A h.length c), (4, .int .i64 (checkF h)), (5, .slice (some ⟨g14, 0, none⟩) h.length h.length), (23, .slice A h.length c), (24, .int .i64 ((h.length : Nat) : Int)), (25, .int .i64 (b : Int))] ∧ Kp [] w0 wx ∧ Sl wx 0 w0.heap.size 3 A h.length c (evv h) ∧ Mat 93 4 wx w7.heap.size hi g14 h.length gr b M ∧ (b ≤ h.length) ∧ (Sound R b M) ∧ (hi ≤ wx.heap.size) ∧ (w7.heap.size ≤ hi) ∧ mx = h.length - b) (h.length - 0) ?_ ?_
    · exact ⟨0, gr0, M0, w15.heap.size, F.sub ⟨rfl, rfl, rfl, rfl, rfl, rfl, trivial⟩, kp0, hh, hmat, by omega, fun i hi => by omega, by omega, by omega, rfl⟩
    · clear F kp0 hh hmat
      rintro m25 ac wl24 ⟨b, gr, M, hi, F, kp0, hh, hmat, hb, hs, hhi, hlh, hm⟩
      have hsz := kp0.size
      refine c_seq (fun K26 H27 => ?_)
      refine c_region ?_
      refine stp F (f_lss rfl rfl) rfl rfl rfl (fun ac F => ?_)
      refine stpEnd ?_
      refine H27 _ _ ?_
      refine c_seq (fun K28 H29 => ?_)
      by_cases hc30 : (b : Int) < ((h.length : Nat) : Int)
      · have hc := hc30
        replace F := F.setb (k := 26) (b' := true) rfl (decide_eq_true hc)
        clear hc
        refine c_true F rfl ?_
        refine wp_skip ?_
        refine H29 _ _ ?_
        refine c_seq (fun K31 H32 => ?_)
        refine wp_block ?_
        refine c_seq (fun K33 H34 => ?_)
        refine c_region ?_
        refine stp F (f_move rfl) rfl rfl rfl (fun ac F => ?_)
        refine stp F (f_indexS (r := ((adr A).add (b * 3))) rfl rfl Try.underlying22 Try.sizeOf28 (by omega) (by omega) (hh.some_ (by omega)).1 (by rw [show Int.toNat (b : Int) = b from by omega])) rfl rfl rfl (fun ac F => ?_)
        refine stp F (f_loadN rfl Try.isAgg28 Try.sizeOf28 (hh.rd (i := b) (by omega) rfl)) rfl rfl rfl (fun ac F => ?_)
        refine stpE F (f_alloc (cs := [.int .i64 0, .int .i64 0, .int .i64 0]) Try.zeroValue28 rfl) rfl rfl rfl ?_
        rintro _ w36 ac ⟨g35, rfl, nb38⟩ F
        have n39 := nb38.num
        have z40 := nb38.size
        have hsz := (nb38.kp).size
        replace hh := hh.keep (nb38.kp) (by simp)
        replace hmat := hmat.keep (nb38.kp) (by simp)
        replace kp0 := kp0.trans (nb38.kp) (by simp)
        have hb37 : Blk w36 g35 28 ([.int .i64 0, .int .i64 0, .int .i64 0]) := nb38.blk
        refine stp F (f_assign rfl) rfl rfl rfl (fun ac F => ?_)
        refine stpW F (f_store (v := .agg #[.int .i64 ((h.getD b default).proc), .int .i64 ((h.getD b default).kind), .int .i64 ((h.getD b default).msg)]) (vs := [.int .i64 ((h.getD b default).proc), .int .i64 ((h.getD b default).kind), .int .i64 ((h.getD b default).msg)]) rfl rfl hb37 Try.sizeOf28 rfl rfl (by simp) (by simp [plainV])) rfl rfl ?_
        rintro w41 ac wr42 F
        have z43 := wr42.size
        have hsz := (wr42.kp).size
        replace hh := hh.keep (wr42.kp) (by intro x hx; simp at hx; omega)
        replace hmat := hmat.keep (wr42.kp) (by intro x hx; simp at hx; omega)
        replace kp0 := kp0.trans (wr42.kp) (by intro x hx hl; simp at hx; omega)
        replace hb37 : Blk w41 g35 28 ([.int .i64 ((h.getD b default).proc), .int .i64 ((h.getD b default).kind), .int .i64 ((h.getD b default).msg)]) := wr42.blk
        refine stpEnd ?_
        refine H34 _ _ ?_
        refine c_seq (fun K44 H45 => ?_)
        refine c_region ?_
        refine stp F (f_move rfl) rfl rfl rfl (fun ac F => ?_)
        refine stp F (f_move rfl) rfl rfl rfl (fun ac F => ?_)
        refine stp F (f_move rfl) rfl rfl rfl (fun ac F => ?_)
        refine stp F (f_len rfl Try.underlying22) rfl rfl rfl (fun ac F => ?_)
        refine stpE F (f_makeSlice (m := h.length) (z := .bool false) (i := Try.t4) rfl rfl Try.underlying93 (by kernel_rfl) (by kernel_rfl) rfl rfl (by show 1 * _ ≤ _; omega) (by omega)) rfl rfl rfl ?_
        rintro _ w47 ac ⟨g46, rfl, nb48⟩ F
        have n50 := nb48.num
        have z51 := nb48.size
        have hsz := (nb48.kp).size
        replace hh := hh.keep (nb48.kp) (by simp)
        replace hmat := hmat.keep (nb48.kp) (by simp)
        replace hb37 := hb37.keep (nb48.kp) (by simp)
        replace kp0 := kp0.trans (nb48.kp) (by simp)
        have hb49 : Blk w47 g46 4 (List.replicate h.length (.bool false)) := nb48.blk
        refine stp F (f_indexS (r := ⟨g14, b * 1, none⟩) rfl rfl Try.underlying92 Try.sizeOf93 (by omega) (by omega) rfl (add_eq (by omega))) rfl rfl rfl (fun ac F => ?_)
        have hbd := hmat.bd
        refine stpW F (f_store (v := .slice (some ⟨g46, 0, none⟩) h.length h.length) (vs := [.slice (some ⟨g46, 0, none⟩) h.length h.length]) rfl rfl hmat.tab Try.sizeOf93 rfl rfl (by rw [tabL_len]; simp; omega) (by simp [plainV])) rfl rfl ?_
        rintro w52 ac wr53 F
        have z54 := wr53.size
        have hsz := (wr53.kp).size
        replace hh := hh.keep (wr53.kp) (by intro x hx; simp at hx; omega)
        replace hb37 := hb37.keep (wr53.kp) (by have := hb37.lt; simp; omega)
        replace hb49 := hb49.keep (wr53.kp) (by have := hb49.lt; simp; omega)
        replace kp0 := kp0.trans (wr53.kp) (by intro x hx hl; simp at hx; omega)
        replace hmat : ∃ gr' M', Mat 93 4 w52 w7.heap.size w52.heap.size g14 h.length gr' (b + 1) M' ∧ gr' b = g46 ∧ (∀ i, i < b → M' i = M i) ∧ M' b = fun _ => false := (hmat.grow hb49 (by omega) (by omega) wr53.kp wr53.blk (by omega))
        refine stpEnd ?_
        obtain ⟨gr1, M1, hmat, hgr, hM1, hM2⟩ := hmat
        have hs1 : Sound R (b + 1) M1 := hs.grow hM1 hM2
        refine H45 _ _ ?_
        refine c_seq (fun K55 H56 => ?_)
        refine c_region ?_
        refine stp F (f_move rfl) rfl rfl rfl (fun ac F => ?_)
        refine stp F (f_move rfl) rfl rfl rfl (fun ac F => ?_)
        have hle := hh.le
        refine stp F (f_sliceTo rfl rfl Try.underlying22 Try.sizeOf28 (by omega) (by omega)) rfl rfl rfl (fun ac F => ?_)
        replace F := F.setv (k := 38) (v' := .slice A b c) rfl (by rw [show (b : Int).toNat = b from by omega])
        refine stp F (f_len rfl Try.underlying22) rfl rfl rfl (fun ac F => ?_)
        refine stp F (f_move rfl) rfl rfl rfl (fun ac F => ?_)
        refine stpEnd ?_
        refine H56 _ _ ?_
        refine wp_block ?_
        refine c_loop (fun mx ax wx => ∃ (a : Nat), ∃ (M2 : Nat → Nat → Bool), Fr ax 129 [(0, .slice A h.length c), (4, .int .i64 (checkF h)), (5, .slice (some ⟨g14, 0, none⟩) h.length h.length), (6, .int .i64 (b : Int)), (7, .pointer (some ⟨g35, 0, none⟩)), (23, .slice A h.length c), (24, .int .i64 ((h.length : Nat) : Int)), (25, .int .i64 (b : Int)), (38, .slice A b c), (39, .int .i64 (b : Int)), (40, .int .i64 (a : Int))] ∧ Kp [] w0 wx ∧ Sl wx 0 w0.heap.size 3 A h.length c (evv h) ∧ Mat 93 4 wx w7.heap.size w52.heap.size g14 h.length gr1 (b + 1) M2 ∧ Blk wx g35 28 ([.int .i64 ((h.getD b default).proc), .int .i64 ((h.getD b default).kind), .int .i64 ((h.getD b default).msg)]) ∧ (a ≤ b) ∧ (Sound R (b + 1) M2) ∧ (w52.heap.size ≤ wx.heap.size) ∧ mx = b - a) (b - 0) ?_ ?_
        · exact ⟨0, M1, F.sub ⟨rfl, rfl, rfl, rfl, rfl, rfl, rfl, rfl, rfl, rfl, rfl, trivial⟩, kp0, hh, hmat, hb37, by omega, hs1, by omega, rfl⟩
        · clear F kp0 hh hmat hb37 hb49
          rintro m58 ac wl57 ⟨a, M2, F, kp0, hh, hmat, hb37, ha, hs2, hhi2, hm⟩
          have hsz := kp0.size
          have lt_hb37 := hb37.lt
          refine c_seq (fun K59 H60 => ?_)
          refine c_region ?_
          refine stp F (f_lss rfl rfl) rfl rfl rfl (fun ac F => ?_)
          refine stpEnd ?_
          refine H60 _ _ ?_
          refine c_seq (fun K61 H62 => ?_)
          by_cases hc63 : (a : Int) < (b : Int)
          · have hc := hc63
            replace F := F.setb (k := 41) (b' := true) rfl (decide_eq_true hc)
            clear hc
            refine c_true F rfl ?_
            refine wp_skip ?_
            refine H62 _ _ ?_
            refine c_seq (fun K64 H65 => ?_)
            refine wp_block ?_
            refine c_seq (fun K66 H67 => ?_)
            refine c_region ?_
            refine stp F (f_move rfl) rfl rfl rfl (fun ac F => ?_)
            refine stp F (f_indexS (r := ((adr A).add (a * 3))) rfl rfl Try.underlying22 Try.sizeOf28 (by omega) (by omega) (hh.some_ (by omega)).1 (by rw [show Int.toNat (a : Int) = a from by omega])) rfl rfl rfl (fun ac F => ?_)
            refine stp F (f_loadN rfl Try.isAgg28 Try.sizeOf28 (hh.rd (i := a) (by omega) rfl)) rfl rfl rfl (fun ac F => ?_)
            refine stpE F (f_alloc (cs := [.int .i64 0, .int .i64 0, .int .i64 0]) Try.zeroValue28 rfl) rfl rfl rfl ?_
            rintro _ w69 ac ⟨g68, rfl, nb71⟩ F
            have n72 := nb71.num
            have z73 := nb71.size
            have hsz := (nb71.kp).size
            replace hh := hh.keep (nb71.kp) (by simp)
            replace hmat := hmat.keep (nb71.kp) (by simp)
            replace hb37 := hb37.keep (nb71.kp) (by simp)
            replace kp0 := kp0.trans (nb71.kp) (by simp)
            have hb70 : Blk w69 g68 28 ([.int .i64 0, .int .i64 0, .int .i64 0]) := nb71.blk
            refine stp F (f_assign rfl) rfl rfl rfl (fun ac F => ?_)
            refine stpW F (f_store (v := .agg #[.int .i64 ((h.getD a default).proc), .int .i64 ((h.getD a default).kind), .int .i64 ((h.getD a default).msg)]) (vs := [.int .i64 ((h.getD a default).proc), .int .i64 ((h.getD a default).kind), .int .i64 ((h.getD a default).msg)]) rfl rfl hb70 Try.sizeOf28 rfl rfl (by simp) (by simp [plainV])) rfl rfl ?_
            rintro w74 ac wr75 F
            have z76 := wr75.size
            have hsz := (wr75.kp).size
            replace hh := hh.keep (wr75.kp) (by intro x hx; simp at hx; omega)
            replace hmat := hmat.keep (wr75.kp) (by intro x hx; simp at hx; omega)
            replace hb37 := hb37.keep (wr75.kp) (by have := hb37.lt; simp; omega)
            replace kp0 := kp0.trans (wr75.kp) (by intro x hx hl; simp at hx; omega)
            replace hb70 : Blk w74 g68 28 ([.int .i64 ((h.getD a default).proc), .int .i64 ((h.getD a default).kind), .int .i64 ((h.getD a default).msg)]) := wr75.blk
            refine stpEnd ?_
            refine H67 _ _ ?_
            refine c_seq (fun K77 H78 => ?_)
            refine c_seq (fun K79 H80 => ?_)
            refine c_region ?_
            refine stp F (f_fieldAddr (r := ⟨g68, 0, none⟩) (sz := 0) rfl Try.underlying28 rfl Try.sizeOf3 rfl) rfl rfl rfl (fun ac F => ?_)
            refine stp F (f_load1 (v := .int .i64 ((h.getD a default).proc)) rfl Try.isAgg3 ((hb70.cell 0).trans rfl)) rfl rfl rfl (fun ac F => ?_)
            refine stp F (f_fieldAddr (r := ⟨g35, 0, none⟩) (sz := 0) rfl Try.underlying28 rfl Try.sizeOf3 rfl) rfl rfl rfl (fun ac F => ?_)
            refine stp F (f_load1 (v := .int .i64 ((h.getD b default).proc)) rfl Try.isAgg3 ((hb37.cell 0).trans rfl)) rfl rfl rfl (fun ac F => ?_)
            refine stp F (f_neq rfl rfl) rfl rfl rfl (fun ac F => ?_)
            refine stp F (f_move rfl) rfl rfl rfl (fun ac F => ?_)
            by_cases hc81 : (h.getD a default).proc = (h.getD b default).proc
            · have hc := hc81
              replace F := F.setb (k := 49) (b' := false) rfl (nt (decide_eq_true hc))
              replace F := F.setb (k := 50) (b' := false) rfl (nt (decide_eq_true hc))
              clear hc
              refine stpN F rfl rfl rfl (fun ac F => ?_)
              refine stpN F rfl rfl rfl (fun ac F => ?_)
              refine stpN F rfl rfl rfl (fun ac F => ?_)
              refine stpN F rfl rfl rfl (fun ac F => ?_)
              refine stpN F rfl rfl rfl (fun ac F => ?_)
              refine stpN F rfl rfl rfl (fun ac F => ?_)
              refine stpN F rfl rfl rfl (fun ac F => ?_)
              refine stpN F rfl rfl rfl (fun ac F => ?_)
              refine stpN F rfl rfl rfl (fun ac F => ?_)
              refine stpN F rfl rfl rfl (fun ac F => ?_)
              refine stpN F rfl rfl rfl (fun ac F => ?_)
              refine stpN F rfl rfl rfl (fun ac F => ?_)
              refine stpN F rfl rfl rfl (fun ac F => ?_)
              refine stpN F rfl rfl rfl (fun ac F => ?_)
              refine stpN F rfl rfl rfl (fun ac F => ?_)
              refine stpN F rfl rfl rfl (fun ac F => ?_)
              refine stp F (f_pickF rfl rfl) rfl rfl rfl (fun ac F => ?_)
              refine stpEnd ?_
              refine H80 _ _ ?_
              refine c_false F rfl ?_
              refine wp_skip ?_
              refine H78 _ _ ?_
              refine c_seq (fun K82 H83 => ?_)
              have hab : R a b := hRb hcode a b (by omega) (by omega) (Or.inl hc81)
              have hs3 := hs2.put (i := b) (j := a) (x := true) (fun _ => hab)
              refine c_region ?_
              refine stp F (f_move rfl) rfl rfl rfl (fun ac F => ?_)
              refine stp F (f_move rfl) rfl rfl rfl (fun ac F => ?_)
              refine stp F (f_indexS (r := ⟨g14, b * 1, none⟩) rfl rfl Try.underlying92 Try.sizeOf93 (by omega) (by omega) rfl (add_eq (by omega))) rfl rfl rfl (fun ac F => ?_)
              refine stp F (f_load1 (v := .slice (some ⟨(gr1 b), 0, none⟩) h.length h.length) rfl Try.isAgg93 ((hmat.tab.cell _).trans (tabL_get (i := b) (by omega) (by omega)))) rfl rfl rfl (fun ac F => ?_)
              refine stp F (f_move rfl) rfl rfl rfl (fun ac F => ?_)
              refine stp F (f_indexS (r := ⟨(gr1 b), a * 1, none⟩) rfl rfl Try.underlying93 Try.sizeOf4 (by omega) (by omega) rfl (add_eq (by omega))) rfl rfl rfl (fun ac F => ?_)
              have hbd := hmat.bdr b (by omega)
              refine stpW F (f_store (v := .bool true) (vs := [.bool true]) rfl rfl (hmat.row b (by omega)) Try.sizeOf4 rfl rfl (by rw [boolsL_len]; simp; omega) (by simp [plainV])) rfl rfl ?_
              rintro w84 ac wr85 F
              have z86 := wr85.size
              have hsz := (wr85.kp).size
              replace hh := hh.keep (wr85.kp) (by intro x hx; simp at hx; omega)
              replace hb37 := hb37.keep (wr85.kp) (by have := hb37.lt; simp; omega)
              replace hb70 := hb70.keep (wr85.kp) (by have := hb70.lt; simp; omega)
              replace kp0 := kp0.trans (wr85.kp) (by intro x hx hl; simp at hx; omega)
              replace hmat : Mat 93 4 w84 w7.heap.size w52.heap.size g14 h.length gr1 (b + 1) (upd M2 b (upd (M2 b) a true)) := (hmat.put (j := a) (by omega) (by omega) wr85.kp wr85.blk)
              refine stpEnd ?_
              refine H83 _ _ ?_
              refine c_seq (fun K87 H88 => ?_)
              refine c_region ?_
              refine stp F (f_move rfl) rfl rfl rfl (fun ac F => ?_)
              refine stp F (f_move rfl) rfl rfl rfl (fun ac F => ?_)
              refine stp F (f_indexS (r := ⟨g14, a * 1, none⟩) rfl rfl Try.underlying92 Try.sizeOf93 (by omega) (by omega) rfl (add_eq (by omega))) rfl rfl rfl (fun ac F => ?_)
              refine stp F (f_load1 (v := .slice (some ⟨(gr1 a), 0, none⟩) h.length h.length) rfl Try.isAgg93 ((hmat.tab.cell _).trans (tabL_get (i := a) (by omega) (by omega)))) rfl rfl rfl (fun ac F => ?_)
              refine stp F (f_len rfl Try.underlying93) rfl rfl rfl (fun ac F => ?_)
              refine stp F (f_move rfl) rfl rfl rfl (fun ac F => ?_)
              refine stpEnd ?_
              refine H88 _ _ ?_
              refine wp_block ?_
              refine c_loop (fun mx ax wx => ∃ (k : Nat), ∃ (M3 : Nat → Nat → Bool), Fr ax 129 [(0, .slice A h.length c), (4, .int .i64 (checkF h)), (5, .slice (some ⟨g14, 0, none⟩) h.length h.length), (6, .int .i64 (b : Int)), (7, .pointer (some ⟨g35, 0, none⟩)), (8, .int .i64 (a : Int)), (23, .slice A h.length c), (24, .int .i64 ((h.length : Nat) : Int)), (25, .int .i64 (b : Int)), (38, .slice A b c), (39, .int .i64 (b : Int)), (40, .int .i64 (a : Int)), (77, .slice (some ⟨(gr1 a), 0, none⟩) h.length h.length), (78, .int .i64 ((h.length : Nat) : Int)), (79, .int .i64 (k : Int))] ∧ Kp [] w0 wx ∧ Sl wx 0 w0.heap.size 3 A h.length c (evv h) ∧ Mat 93 4 wx w7.heap.size w52.heap.size g14 h.length gr1 (b + 1) M3 ∧ Blk wx g35 28 ([.int .i64 ((h.getD b default).proc), .int .i64 ((h.getD b default).kind), .int .i64 ((h.getD b default).msg)]) ∧ (k ≤ h.length) ∧ (Sound R (b + 1) M3) ∧ (w52.heap.size ≤ wx.heap.size) ∧ mx = h.length - k) (h.length - 0) ?_ ?_
              · exact ⟨0, (upd M2 b (upd (M2 b) a true)), F.sub ⟨rfl, rfl, rfl, rfl, rfl, rfl, rfl, rfl, rfl, rfl, rfl, rfl, rfl, rfl, rfl, trivial⟩, kp0, hh, hmat, hb37, by omega, hs3, by omega, rfl⟩
              · clear F kp0 hh hmat hb37 hb70
                rintro m90 ac wl89 ⟨k, M3, F, kp0, hh, hmat, hb37, hk, hs2, hhi2, hm⟩
                have hsz := kp0.size
                have lt_hb37 := hb37.lt
                refine c_seq (fun K91 H92 => ?_)
                refine c_region ?_
                refine stp F (f_lss rfl rfl) rfl rfl rfl (fun ac F => ?_)
                refine stpEnd ?_
                refine H92 _ _ ?_
                refine c_seq (fun K93 H94 => ?_)
                by_cases hc95 : (k : Int) < ((h.length : Nat) : Int)
                · have hc := hc95
                  replace F := F.setb (k := 80) (b' := true) rfl (decide_eq_true hc)
                  clear hc
                  refine c_true F rfl ?_
                  refine wp_skip ?_
                  refine H94 _ _ ?_
                  refine c_seq (fun K96 H97 => ?_)
                  refine wp_block ?_
                  refine c_seq (fun K98 H99 => ?_)
                  refine c_region ?_
                  refine stp F (f_move rfl) rfl rfl rfl (fun ac F => ?_)
                  refine stp F (f_indexS (r := ⟨(gr1 a), k * 1, none⟩) rfl rfl Try.underlying93 Try.sizeOf4 (by omega) (by omega) rfl (add_eq (by omega))) rfl rfl rfl (fun ac F => ?_)
                  refine stp F (f_load1 (v := .bool (M3 a k)) rfl Try.isAgg4 (((hmat.row a (by omega)).cell _).trans (boolsL_get (i := k) (by omega)))) rfl rfl rfl (fun ac F => ?_)
                  refine stp F (f_assign rfl) rfl rfl rfl (fun ac F => ?_)
                  refine stp F (f_assign rfl) rfl rfl rfl (fun ac F => ?_)
                  refine stpEnd ?_
                  refine H99 _ _ ?_
                  refine c_draw 17 (by rfl) (by decide +kernel) (fun wx => Kp [] wl89 wx) (Kp.drew _) ?_
                  refine tP F rfl (fun wq => f_move rfl) rfl rfl rfl (fun ac F => ?_)
                  refine tP F rfl (fun wq => f_move rfl) rfl rfl rfl (fun ac F => ?_)
                  refine tP F rfl (fun wq => f_indexS (r := ⟨g14, b * 1, none⟩) rfl rfl Try.underlying92 Try.sizeOf93 (by omega) (by omega) rfl (add_eq (by omega))) rfl rfl rfl (fun ac F => ?_)
                  refine tQ F rfl (fun wq hq => f_load1 (v := .slice (some ⟨(gr1 b), 0, none⟩) h.length h.length) rfl Try.isAgg93 (((hmat.keep hq (by simp)).tab.cell _).trans (tabL_get (i := b) (by omega) (by omega)))) rfl rfl rfl (fun ac F => ?_)
                  refine tP F rfl (fun wq => f_move rfl) rfl rfl rfl (fun ac F => ?_)
                  refine tP F rfl (fun wq => f_move rfl) rfl rfl rfl (fun ac F => ?_)
                  refine tP F rfl (fun wq => f_move rfl) rfl rfl rfl (fun ac F => ?_)
                  refine tP F rfl (fun wq => f_indexS (r := ⟨g14, b * 1, none⟩) rfl rfl Try.underlying92 Try.sizeOf93 (by omega) (by omega) rfl (add_eq (by omega))) rfl rfl rfl (fun ac F => ?_)
                  refine tQ F rfl (fun wq hq => f_load1 (v := .slice (some ⟨(gr1 b), 0, none⟩) h.length h.length) rfl Try.isAgg93 (((hmat.keep hq (by simp)).tab.cell _).trans (tabL_get (i := b) (by omega) (by omega)))) rfl rfl rfl (fun ac F => ?_)
                  refine tP F rfl (fun wq => f_move rfl) rfl rfl rfl (fun ac F => ?_)
                  refine tP F rfl (fun wq => f_indexS (r := ⟨(gr1 b), k * 1, none⟩) rfl rfl Try.underlying93 Try.sizeOf4 (by omega) (by omega) rfl (add_eq (by omega))) rfl rfl rfl (fun ac F => ?_)
                  refine tQ F rfl (fun wq hq => f_load1 (v := .bool (M3 b k)) rfl Try.isAgg4 ((((hmat.keep hq (by simp)).row b (by omega)).cell _).trans (boolsL_get (i := k) (by omega)))) rfl rfl rfl (fun ac F => ?_)
                  refine tP F rfl (fun wq => f_move rfl) rfl rfl rfl (fun ac F => ?_)
                  by_cases hc100 : M3 b k = true
                  · have hc := hc100
                    replace F := F.setb (k := 95) (b' := true) rfl (hc)
                    replace F := F.setb (k := 96) (b' := true) rfl (hc)
                    clear hc
                    refine tN F rfl rfl rfl (fun ac F => ?_)
                    refine tP F rfl (fun wq => f_pickT rfl rfl) rfl rfl rfl (fun ac F => ?_)
                    refine tP F rfl (fun wq => f_indexS (r := ⟨(gr1 b), k * 1, none⟩) rfl rfl Try.underlying93 Try.sizeOf4 (by omega) (by omega) rfl (add_eq (by omega))) rfl rfl rfl (fun ac F => ?_)
                    have hbd := hmat.bdr b (by omega)
                    refine tW (C' := (fun wx => Kp [(gr1 b)] wl89 wx ∧ Mat 93 4 wx w7.heap.size w52.heap.size g14 h.length gr1 (b + 1) (upd M3 b (upd (M3 b) k true)))) F rfl (fun wq hq => FiresW.mono (f_store (v := .bool true) (vs := [.bool true]) rfl rfl ((hmat.keep hq (by simp)).row b (by omega)) Try.sizeOf4 rfl rfl (by rw [boolsL_len]; simp; omega) (by simp [plainV])) (fun wx h2 => ⟨(hq.mono (M' := [(gr1 b)]) (by simp)).trans h2.kp (by intro x hx _; exact hx), ((hmat.keep hq (by simp)).put (j := k) (by omega) (by omega) h2.kp h2.blk)⟩)) rfl rfl (fun ac F => ?_)
                    refine tEnd (fun w103 hq => ?_)
                    obtain ⟨hq, hn⟩ := hq
                    have hsz := hq.size
                    replace hh := hh.keep hq (by intro x hx; simp at hx; omega)
                    replace hb37 := hb37.keep hq (by have := hb37.lt; simp; omega)
                    replace kp0 := kp0.trans hq (by intro x hx hl; simp at hx; omega)
                    replace hmat : Mat 93 4 w103 w7.heap.size w52.heap.size g14 h.length gr1 (b + 1) (upd M3 b (upd (M3 b) k true)) := hn
                    refine H97 _ _ ?_
                    refine c_region ?_
                    refine stp F (f_add (r := ((k + 1 : Nat) : Int)) rfl rfl (by rw [IntKind.wrap_i64]; omega)) rfl rfl rfl (fun ac F => ?_)
                    refine stp F (f_move rfl) rfl rfl rfl (fun ac F => ?_)
                    refine stpEnd ?_
                    refine ⟨h.length - (k + 1), ?_, (k + 1), (upd M3 b (upd (M3 b) k true)), F.sub ⟨rfl, rfl, rfl, rfl, rfl, rfl, rfl, rfl, rfl, rfl, rfl, rfl, rfl, rfl, rfl, trivial⟩, kp0, hh, hmat, hb37, by omega, hs2.put (i := b) (j := k) (fun _ => hs2 b (by omega) k hc100), by omega, rfl⟩
                    omega
                  · have hc := hc100
                    replace F := F.setb (k := 95) (b' := false) rfl (Bool.eq_false_iff.2 hc)
                    replace F := F.setb (k := 96) (b' := false) rfl (Bool.eq_false_iff.2 hc)
                    clear hc
                    refine tP F rfl (fun wq => f_move rfl) rfl rfl rfl (fun ac F => ?_)
                    refine tP F rfl (fun wq => f_pickF rfl rfl) rfl rfl rfl (fun ac F => ?_)
                    refine tP F rfl (fun wq => f_indexS (r := ⟨(gr1 b), k * 1, none⟩) rfl rfl Try.underlying93 Try.sizeOf4 (by omega) (by omega) rfl (add_eq (by omega))) rfl rfl rfl (fun ac F => ?_)
                    have hbd := hmat.bdr b (by omega)
                    refine tW (C' := (fun wx => Kp [(gr1 b)] wl89 wx ∧ Mat 93 4 wx w7.heap.size w52.heap.size g14 h.length gr1 (b + 1) (upd M3 b (upd (M3 b) k (M3 a k))))) F rfl (fun wq hq => FiresW.mono (f_store (v := .bool (M3 a k)) (vs := [.bool (M3 a k)]) rfl rfl ((hmat.keep hq (by simp)).row b (by omega)) Try.sizeOf4 rfl rfl (by rw [boolsL_len]; simp; omega) (by simp [plainV])) (fun wx h2 => ⟨(hq.mono (M' := [(gr1 b)]) (by simp)).trans h2.kp (by intro x hx _; exact hx), ((hmat.keep hq (by simp)).put (j := k) (by omega) (by omega) h2.kp h2.blk)⟩)) rfl rfl (fun ac F => ?_)
                    refine tEnd (fun w106 hq => ?_)
                    obtain ⟨hq, hn⟩ := hq
                    have hsz := hq.size
                    replace hh := hh.keep hq (by intro x hx; simp at hx; omega)
                    replace hb37 := hb37.keep hq (by have := hb37.lt; simp; omega)
                    replace kp0 := kp0.trans hq (by intro x hx hl; simp at hx; omega)
                    replace hmat : Mat 93 4 w106 w7.heap.size w52.heap.size g14 h.length gr1 (b + 1) (upd M3 b (upd (M3 b) k (M3 a k))) := hn
                    refine H97 _ _ ?_
                    refine c_region ?_
                    refine stp F (f_add (r := ((k + 1 : Nat) : Int)) rfl rfl (by rw [IntKind.wrap_i64]; omega)) rfl rfl rfl (fun ac F => ?_)
                    refine stp F (f_move rfl) rfl rfl rfl (fun ac F => ?_)
                    refine stpEnd ?_
                    refine ⟨h.length - (k + 1), ?_, (k + 1), (upd M3 b (upd (M3 b) k (M3 a k))), F.sub ⟨rfl, rfl, rfl, rfl, rfl, rfl, rfl, rfl, rfl, rfl, rfl, rfl, rfl, rfl, rfl, trivial⟩, kp0, hh, hmat, hb37, by omega, hs2.put (i := b) (j := k) (fun hx => hRt _ _ _ (hs2 a (by omega) k hx) hab), by omega, rfl⟩
                    omega
                · have hc := hc95
                  replace F := F.setb (k := 80) (b' := false) rfl (decide_eq_false hc)
                  clear hc
                  refine c_false F rfl ?_
                  refine wp_exit ?_
                  refine H65 _ _ ?_
                  refine c_region ?_
                  refine stp F (f_add (r := ((a + 1 : Nat) : Int)) rfl rfl (by rw [IntKind.wrap_i64]; omega)) rfl rfl rfl (fun ac F => ?_)
                  refine stp F (f_move rfl) rfl rfl rfl (fun ac F => ?_)
                  refine stpEnd ?_
                  refine ⟨b - (a + 1), ?_, (a + 1), M3, F.sub ⟨rfl, rfl, rfl, rfl, rfl, rfl, rfl, rfl, rfl, rfl, rfl, trivial⟩, kp0, hh, hmat, hb37, by omega, hs2, by omega, rfl⟩
                  omega
            · have hc := hc81
              replace F := F.setb (k := 49) (b' := true) rfl (nf (decide_eq_false hc))
              replace F := F.setb (k := 50) (b' := true) rfl (nf (decide_eq_false hc))
              clear hc
              refine stp F (f_fieldAddr (r := ⟨g68, 1, none⟩) (sz := 0) rfl Try.underlying28 rfl Try.sizeOf3 rfl) rfl rfl rfl (fun ac F => ?_)
              refine stp F (f_load1 (v := .int .i64 ((h.getD a default).kind)) rfl Try.isAgg3 ((hb70.cell 1).trans rfl)) rfl rfl rfl (fun ac F => ?_)
              refine stp F (f_eql rfl rfl) rfl rfl rfl (fun ac F => ?_)
              refine stp F (f_move rfl) rfl rfl rfl (fun ac F => ?_)
              by_cases hc107 : (h.getD a default).kind = 2
              · have hc := hc107
                replace F := F.setb (k := 53) (b' := true) rfl (decide_eq_true hc)
                replace F := F.setb (k := 54) (b' := true) rfl (decide_eq_true hc)
                clear hc
                refine stp F (f_fieldAddr (r := ⟨g35, 1, none⟩) (sz := 0) rfl Try.underlying28 rfl Try.sizeOf3 rfl) rfl rfl rfl (fun ac F => ?_)
                refine stp F (f_load1 (v := .int .i64 ((h.getD b default).kind)) rfl Try.isAgg3 ((hb37.cell 1).trans rfl)) rfl rfl rfl (fun ac F => ?_)
                refine stp F (f_eql rfl rfl) rfl rfl rfl (fun ac F => ?_)
                refine stp F (f_pickT rfl rfl) rfl rfl rfl (fun ac F => ?_)
                refine stp F (f_move rfl) rfl rfl rfl (fun ac F => ?_)
                by_cases hc108 : (h.getD b default).kind = 3
                · have hc := hc108
                  replace F := F.setb (k := 57) (b' := true) rfl (decide_eq_true hc)
                  replace F := F.setb (k := 58) (b' := true) rfl (decide_eq_true hc)
                  replace F := F.setb (k := 59) (b' := true) rfl (decide_eq_true hc)
                  clear hc
                  refine stp F (f_fieldAddr (r := ⟨g68, 2, none⟩) (sz := 0) rfl Try.underlying28 rfl Try.sizeOf3 rfl) rfl rfl rfl (fun ac F => ?_)
                  refine stp F (f_load1 (v := .int .i64 ((h.getD a default).msg)) rfl Try.isAgg3 ((hb70.cell 2).trans rfl)) rfl rfl rfl (fun ac F => ?_)
                  refine stp F (f_fieldAddr (r := ⟨g35, 2, none⟩) (sz := 0) rfl Try.underlying28 rfl Try.sizeOf3 rfl) rfl rfl rfl (fun ac F => ?_)
                  refine stp F (f_load1 (v := .int .i64 ((h.getD b default).msg)) rfl Try.isAgg3 ((hb37.cell 2).trans rfl)) rfl rfl rfl (fun ac F => ?_)
                  refine stp F (f_eql rfl rfl) rfl rfl rfl (fun ac F => ?_)
                  refine stp F (f_pickT rfl rfl) rfl rfl rfl (fun ac F => ?_)
                  refine stp F (f_not rfl) rfl rfl rfl (fun ac F => ?_)
                  refine stp F (f_pickT rfl rfl) rfl rfl rfl (fun ac F => ?_)
                  refine stpEnd ?_
                  refine H80 _ _ ?_
                  by_cases hc109 : (h.getD a default).msg = (h.getD b default).msg
                  · have hc := hc109
                    replace F := F.setb (k := 64) (b' := true) rfl (decide_eq_true hc)
                    replace F := F.setb (k := 65) (b' := true) rfl (decide_eq_true hc)
                    replace F := F.setb (k := 66) (b' := false) rfl (nt (decide_eq_true hc))
                    replace F := F.setb (k := 67) (b' := false) rfl (nt (decide_eq_true hc))
                    clear hc
                    refine c_false F rfl ?_
                    refine wp_skip ?_
                    refine H78 _ _ ?_
                    refine c_seq (fun K110 H111 => ?_)
                    have hab : R a b := hRb hcode a b (by omega) (by omega) (Or.inr ⟨hc107, hc108, hc109⟩)
                    have hs3 := hs2.put (i := b) (j := a) (x := true) (fun _ => hab)
                    refine c_region ?_
                    refine stp F (f_move rfl) rfl rfl rfl (fun ac F => ?_)
                    refine stp F (f_move rfl) rfl rfl rfl (fun ac F => ?_)
                    refine stp F (f_indexS (r := ⟨g14, b * 1, none⟩) rfl rfl Try.underlying92 Try.sizeOf93 (by omega) (by omega) rfl (add_eq (by omega))) rfl rfl rfl (fun ac F => ?_)
                    refine stp F (f_load1 (v := .slice (some ⟨(gr1 b), 0, none⟩) h.length h.length) rfl Try.isAgg93 ((hmat.tab.cell _).trans (tabL_get (i := b) (by omega) (by omega)))) rfl rfl rfl (fun ac F => ?_)
                    refine stp F (f_move rfl) rfl rfl rfl (fun ac F => ?_)
                    refine stp F (f_indexS (r := ⟨(gr1 b), a * 1, none⟩) rfl rfl Try.underlying93 Try.sizeOf4 (by omega) (by omega) rfl (add_eq (by omega))) rfl rfl rfl (fun ac F => ?_)
                    have hbd := hmat.bdr b (by omega)
                    refine stpW F (f_store (v := .bool true) (vs := [.bool true]) rfl rfl (hmat.row b (by omega)) Try.sizeOf4 rfl rfl (by rw [boolsL_len]; simp; omega) (by simp [plainV])) rfl rfl ?_
                    rintro w112 ac wr113 F
                    have z114 := wr113.size
                    have hsz := (wr113.kp).size
                    replace hh := hh.keep (wr113.kp) (by intro x hx; simp at hx; omega)
                    replace hb37 := hb37.keep (wr113.kp) (by have := hb37.lt; simp; omega)
                    replace hb70 := hb70.keep (wr113.kp) (by have := hb70.lt; simp; omega)
                    replace kp0 := kp0.trans (wr113.kp) (by intro x hx hl; simp at hx; omega)
                    replace hmat : Mat 93 4 w112 w7.heap.size w52.heap.size g14 h.length gr1 (b + 1) (upd M2 b (upd (M2 b) a true)) := (hmat.put (j := a) (by omega) (by omega) wr113.kp wr113.blk)
                    refine stpEnd ?_
                    refine H111 _ _ ?_
                    refine c_seq (fun K115 H116 => ?_)
                    refine c_region ?_
                    refine stp F (f_move rfl) rfl rfl rfl (fun ac F => ?_)
                    refine stp F (f_move rfl) rfl rfl rfl (fun ac F => ?_)
                    refine stp F (f_indexS (r := ⟨g14, a * 1, none⟩) rfl rfl Try.underlying92 Try.sizeOf93 (by omega) (by omega) rfl (add_eq (by omega))) rfl rfl rfl (fun ac F => ?_)
                    refine stp F (f_load1 (v := .slice (some ⟨(gr1 a), 0, none⟩) h.length h.length) rfl Try.isAgg93 ((hmat.tab.cell _).trans (tabL_get (i := a) (by omega) (by omega)))) rfl rfl rfl (fun ac F => ?_)
                    refine stp F (f_len rfl Try.underlying93) rfl rfl rfl (fun ac F => ?_)
                    refine stp F (f_move rfl) rfl rfl rfl (fun ac F => ?_)
                    refine stpEnd ?_
                    refine H116 _ _ ?_
                    refine wp_block ?_
                    refine c_loop (fun mx ax wx => ∃ (k : Nat), ∃ (M3 : Nat → Nat → Bool), Fr ax 129 [(0, .slice A h.length c), (4, .int .i64 (checkF h)), (5, .slice (some ⟨g14, 0, none⟩) h.length h.length), (6, .int .i64 (b : Int)), (7, .pointer (some ⟨g35, 0, none⟩)), (8, .int .i64 (a : Int)), (23, .slice A h.length c), (24, .int .i64 ((h.length : Nat) : Int)), (25, .int .i64 (b : Int)), (38, .slice A b c), (39, .int .i64 (b : Int)), (40, .int .i64 (a : Int)), (77, .slice (some ⟨(gr1 a), 0, none⟩) h.length h.length), (78, .int .i64 ((h.length : Nat) : Int)), (79, .int .i64 (k : Int))] ∧ Kp [] w0 wx ∧ Sl wx 0 w0.heap.size 3 A h.length c (evv h) ∧ Mat 93 4 wx w7.heap.size w52.heap.size g14 h.length gr1 (b + 1) M3 ∧ Blk wx g35 28 ([.int .i64 ((h.getD b default).proc), .int .i64 ((h.getD b default).kind), .int .i64 ((h.getD b default).msg)]) ∧ (k ≤ h.length) ∧ (Sound R (b + 1) M3) ∧ (w52.heap.size ≤ wx.heap.size) ∧ mx = h.length - k) (h.length - 0) ?_ ?_
                    · exact ⟨0, (upd M2 b (upd (M2 b) a true)), F.sub ⟨rfl, rfl, rfl, rfl, rfl, rfl, rfl, rfl, rfl, rfl, rfl, rfl, rfl, rfl, rfl, trivial⟩, kp0, hh, hmat, hb37, by omega, hs3, by omega, rfl⟩
                    · clear F kp0 hh hmat hb37 hb70
                      rintro m118 ac wl117 ⟨k, M3, F, kp0, hh, hmat, hb37, hk, hs2, hhi2, hm⟩
                      have hsz := kp0.size
                      have lt_hb37 := hb37.lt
                      refine c_seq (fun K119 H120 => ?_)
                      refine c_region ?_
                      refine stp F (f_lss rfl rfl) rfl rfl rfl (fun ac F => ?_)
                      refine stpEnd ?_
                      refine H120 _ _ ?_
                      refine c_seq (fun K121 H122 => ?_)
                      by_cases hc123 : (k : Int) < ((h.length : Nat) : Int)
                      · have hc := hc123
                        replace F := F.setb (k := 80) (b' := true) rfl (decide_eq_true hc)
                        clear hc
                        refine c_true F rfl ?_
                        refine wp_skip ?_
                        refine H122 _ _ ?_
                        refine c_seq (fun K124 H125 => ?_)
                        refine wp_block ?_
                        refine c_seq (fun K126 H127 => ?_)
                        refine c_region ?_
                        refine stp F (f_move rfl) rfl rfl rfl (fun ac F => ?_)
                        refine stp F (f_indexS (r := ⟨(gr1 a), k * 1, none⟩) rfl rfl Try.underlying93 Try.sizeOf4 (by omega) (by omega) rfl (add_eq (by omega))) rfl rfl rfl (fun ac F => ?_)
                        refine stp F (f_load1 (v := .bool (M3 a k)) rfl Try.isAgg4 (((hmat.row a (by omega)).cell _).trans (boolsL_get (i := k) (by omega)))) rfl rfl rfl (fun ac F => ?_)
                        refine stp F (f_assign rfl) rfl rfl rfl (fun ac F => ?_)
                        refine stp F (f_assign rfl) rfl rfl rfl (fun ac F => ?_)
                        refine stpEnd ?_
                        refine H127 _ _ ?_
                        refine c_draw 17 (by rfl) (by decide +kernel) (fun wx => Kp [] wl117 wx) (Kp.drew _) ?_
                        refine tP F rfl (fun wq => f_move rfl) rfl rfl rfl (fun ac F => ?_)
                        refine tP F rfl (fun wq => f_move rfl) rfl rfl rfl (fun ac F => ?_)
                        refine tP F rfl (fun wq => f_indexS (r := ⟨g14, b * 1, none⟩) rfl rfl Try.underlying92 Try.sizeOf93 (by omega) (by omega) rfl (add_eq (by omega))) rfl rfl rfl (fun ac F => ?_)
                        refine tQ F rfl (fun wq hq => f_load1 (v := .slice (some ⟨(gr1 b), 0, none⟩) h.length h.length) rfl Try.isAgg93 (((hmat.keep hq (by simp)).tab.cell _).trans (tabL_get (i := b) (by omega) (by omega)))) rfl rfl rfl (fun ac F => ?_)
                        refine tP F rfl (fun wq => f_move rfl) rfl rfl rfl (fun ac F => ?_)
                        refine tP F rfl (fun wq => f_move rfl) rfl rfl rfl (fun ac F => ?_)
                        refine tP F rfl (fun wq => f_move rfl) rfl rfl rfl (fun ac F => ?_)
                        refine tP F rfl (fun wq => f_indexS (r := ⟨g14, b * 1, none⟩) rfl rfl Try.underlying92 Try.sizeOf93 (by omega) (by omega) rfl (add_eq (by omega))) rfl rfl rfl (fun ac F => ?_)
                        refine tQ F rfl (fun wq hq => f_load1 (v := .slice (some ⟨(gr1 b), 0, none⟩) h.length h.length) rfl Try.isAgg93 (((hmat.keep hq (by simp)).tab.cell _).trans (tabL_get (i := b) (by omega) (by omega)))) rfl rfl rfl (fun ac F => ?_)
                        refine tP F rfl (fun wq => f_move rfl) rfl rfl rfl (fun ac F => ?_)
                        refine tP F rfl (fun wq => f_indexS (r := ⟨(gr1 b), k * 1, none⟩) rfl rfl Try.underlying93 Try.sizeOf4 (by omega) (by omega) rfl (add_eq (by omega))) rfl rfl rfl (fun ac F => ?_)
                        refine tQ F rfl (fun wq hq => f_load1 (v := .bool (M3 b k)) rfl Try.isAgg4 ((((hmat.keep hq (by simp)).row b (by omega)).cell _).trans (boolsL_get (i := k) (by omega)))) rfl rfl rfl (fun ac F => ?_)
                        refine tP F rfl (fun wq => f_move rfl) rfl rfl rfl (fun ac F => ?_)
                        by_cases hc128 : M3 b k = true
                        · have hc := hc128
                          replace F := F.setb (k := 95) (b' := true) rfl (hc)
                          replace F := F.setb (k := 96) (b' := true) rfl (hc)
                          clear hc
                          refine tN F rfl rfl rfl (fun ac F => ?_)
                          refine tP F rfl (fun wq => f_pickT rfl rfl) rfl rfl rfl (fun ac F => ?_)
                          refine tP F rfl (fun wq => f_indexS (r := ⟨(gr1 b), k * 1, none⟩) rfl rfl Try.underlying93 Try.sizeOf4 (by omega) (by omega) rfl (add_eq (by omega))) rfl rfl rfl (fun ac F => ?_)
                          have hbd := hmat.bdr b (by omega)
                          refine tW (C' := (fun wx => Kp [(gr1 b)] wl117 wx ∧ Mat 93 4 wx w7.heap.size w52.heap.size g14 h.length gr1 (b + 1) (upd M3 b (upd (M3 b) k true)))) F rfl (fun wq hq => FiresW.mono (f_store (v := .bool true) (vs := [.bool true]) rfl rfl ((hmat.keep hq (by simp)).row b (by omega)) Try.sizeOf4 rfl rfl (by rw [boolsL_len]; simp; omega) (by simp [plainV])) (fun wx h2 => ⟨(hq.mono (M' := [(gr1 b)]) (by simp)).trans h2.kp (by intro x hx _; exact hx), ((hmat.keep hq (by simp)).put (j := k) (by omega) (by omega) h2.kp h2.blk)⟩)) rfl rfl (fun ac F => ?_)
                          refine tEnd (fun w131 hq => ?_)
                          obtain ⟨hq, hn⟩ := hq
                          have hsz := hq.size
                          replace hh := hh.keep hq (by intro x hx; simp at hx; omega)
                          replace hb37 := hb37.keep hq (by have := hb37.lt; simp; omega)
                          replace kp0 := kp0.trans hq (by intro x hx hl; simp at hx; omega)
                          replace hmat : Mat 93 4 w131 w7.heap.size w52.heap.size g14 h.length gr1 (b + 1) (upd M3 b (upd (M3 b) k true)) := hn
                          refine H125 _ _ ?_
                          refine c_region ?_
                          refine stp F (f_add (r := ((k + 1 : Nat) : Int)) rfl rfl (by rw [IntKind.wrap_i64]; omega)) rfl rfl rfl (fun ac F => ?_)
                          refine stp F (f_move rfl) rfl rfl rfl (fun ac F => ?_)
                          refine stpEnd ?_
                          refine ⟨h.length - (k + 1), ?_, (k + 1), (upd M3 b (upd (M3 b) k true)), F.sub ⟨rfl, rfl, rfl, rfl, rfl, rfl, rfl, rfl, rfl, rfl, rfl, rfl, rfl, rfl, rfl, trivial⟩, kp0, hh, hmat, hb37, by omega, hs2.put (i := b) (j := k) (fun _ => hs2 b (by omega) k hc128), by omega, rfl⟩
                          omega
                        · have hc := hc128
                          replace F := F.setb (k := 95) (b' := false) rfl (Bool.eq_false_iff.2 hc)
                          replace F := F.setb (k := 96) (b' := false) rfl (Bool.eq_false_iff.2 hc)
                          clear hc
                          refine tP F rfl (fun wq => f_move rfl) rfl rfl rfl (fun ac F => ?_)
                          refine tP F rfl (fun wq => f_pickF rfl rfl) rfl rfl rfl (fun ac F => ?_)
                          refine tP F rfl (fun wq => f_indexS (r := ⟨(gr1 b), k * 1, none⟩) rfl rfl Try.underlying93 Try.sizeOf4 (by omega) (by omega) rfl (add_eq (by omega))) rfl rfl rfl (fun ac F => ?_)
                          have hbd := hmat.bdr b (by omega)
                          refine tW (C' := (fun wx => Kp [(gr1 b)] wl117 wx ∧ Mat 93 4 wx w7.heap.size w52.heap.size g14 h.length gr1 (b + 1) (upd M3 b (upd (M3 b) k (M3 a k))))) F rfl (fun wq hq => FiresW.mono (f_store (v := .bool (M3 a k)) (vs := [.bool (M3 a k)]) rfl rfl ((hmat.keep hq (by simp)).row b (by omega)) Try.sizeOf4 rfl rfl (by rw [boolsL_len]; simp; omega) (by simp [plainV])) (fun wx h2 => ⟨(hq.mono (M' := [(gr1 b)]) (by simp)).trans h2.kp (by intro x hx _; exact hx), ((hmat.keep hq (by simp)).put (j := k) (by omega) (by omega) h2.kp h2.blk)⟩)) rfl rfl (fun ac F => ?_)
                          refine tEnd (fun w134 hq => ?_)
                          obtain ⟨hq, hn⟩ := hq
                          have hsz := hq.size
                          replace hh := hh.keep hq (by intro x hx; simp at hx; omega)
                          replace hb37 := hb37.keep hq (by have := hb37.lt; simp; omega)
                          replace kp0 := kp0.trans hq (by intro x hx hl; simp at hx; omega)
                          replace hmat : Mat 93 4 w134 w7.heap.size w52.heap.size g14 h.length gr1 (b + 1) (upd M3 b (upd (M3 b) k (M3 a k))) := hn
                          refine H125 _ _ ?_
                          refine c_region ?_
                          refine stp F (f_add (r := ((k + 1 : Nat) : Int)) rfl rfl (by rw [IntKind.wrap_i64]; omega)) rfl rfl rfl (fun ac F => ?_)
                          refine stp F (f_move rfl) rfl rfl rfl (fun ac F => ?_)
                          refine stpEnd ?_
                          refine ⟨h.length - (k + 1), ?_, (k + 1), (upd M3 b (upd (M3 b) k (M3 a k))), F.sub ⟨rfl, rfl, rfl, rfl, rfl, rfl, rfl, rfl, rfl, rfl, rfl, rfl, rfl, rfl, rfl, trivial⟩, kp0, hh, hmat, hb37, by omega, hs2.put (i := b) (j := k) (fun hx => hRt _ _ _ (hs2 a (by omega) k hx) hab), by omega, rfl⟩
                          omega
                      · have hc := hc123
                        replace F := F.setb (k := 80) (b' := false) rfl (decide_eq_false hc)
                        clear hc
                        refine c_false F rfl ?_
                        refine wp_exit ?_
                        refine H65 _ _ ?_
                        refine c_region ?_
                        refine stp F (f_add (r := ((a + 1 : Nat) : Int)) rfl rfl (by rw [IntKind.wrap_i64]; omega)) rfl rfl rfl (fun ac F => ?_)
                        refine stp F (f_move rfl) rfl rfl rfl (fun ac F => ?_)
                        refine stpEnd ?_
                        refine ⟨b - (a + 1), ?_, (a + 1), M3, F.sub ⟨rfl, rfl, rfl, rfl, rfl, rfl, rfl, rfl, rfl, rfl, rfl, trivial⟩, kp0, hh, hmat, hb37, by omega, hs2, by omega, rfl⟩
                        omega
                  · have hc := hc109
                    replace F := F.setb (k := 64) (b' := false) rfl (decide_eq_false hc)
                    replace F := F.setb (k := 65) (b' := false) rfl (decide_eq_false hc)
                    replace F := F.setb (k := 66) (b' := true) rfl (nf (decide_eq_false hc))
                    replace F := F.setb (k := 67) (b' := true) rfl (nf (decide_eq_false hc))
                    clear hc
                    refine c_true F rfl ?_
                    refine wp_exit ?_
                    refine H65 _ _ ?_
                    refine c_region ?_
                    refine stp F (f_add (r := ((a + 1 : Nat) : Int)) rfl rfl (by rw [IntKind.wrap_i64]; omega)) rfl rfl rfl (fun ac F => ?_)
                    refine stp F (f_move rfl) rfl rfl rfl (fun ac F => ?_)
                    refine stpEnd ?_
                    refine ⟨b - (a + 1), ?_, (a + 1), M2, F.sub ⟨rfl, rfl, rfl, rfl, rfl, rfl, rfl, rfl, rfl, rfl, rfl, trivial⟩, kp0, hh, hmat, hb37, by omega, hs2, by omega, rfl⟩
                    omega
                · have hc := hc108
                  replace F := F.setb (k := 57) (b' := false) rfl (decide_eq_false hc)
                  replace F := F.setb (k := 58) (b' := false) rfl (decide_eq_false hc)
                  replace F := F.setb (k := 59) (b' := false) rfl (decide_eq_false hc)
                  clear hc
                  refine stpN F rfl rfl rfl (fun ac F => ?_)
                  refine stpN F rfl rfl rfl (fun ac F => ?_)
                  refine stpN F rfl rfl rfl (fun ac F => ?_)
                  refine stpN F rfl rfl rfl (fun ac F => ?_)
                  refine stpN F rfl rfl rfl (fun ac F => ?_)
                  refine stp F (f_pickF rfl rfl) rfl rfl rfl (fun ac F => ?_)
                  refine stp F (f_not rfl) rfl rfl rfl (fun ac F => ?_)
                  refine stp F (f_pickT rfl rfl) rfl rfl rfl (fun ac F => ?_)
                  refine stpEnd ?_
                  refine H80 _ _ ?_
                  refine c_true F rfl ?_
                  refine wp_exit ?_
                  refine H65 _ _ ?_
                  refine c_region ?_
                  refine stp F (f_add (r := ((a + 1 : Nat) : Int)) rfl rfl (by rw [IntKind.wrap_i64]; omega)) rfl rfl rfl (fun ac F => ?_)
                  refine stp F (f_move rfl) rfl rfl rfl (fun ac F => ?_)
                  refine stpEnd ?_
                  refine ⟨b - (a + 1), ?_, (a + 1), M2, F.sub ⟨rfl, rfl, rfl, rfl, rfl, rfl, rfl, rfl, rfl, rfl, rfl, trivial⟩, kp0, hh, hmat, hb37, by omega, hs2, by omega, rfl⟩
                  omega
              · have hc := hc107
                replace F := F.setb (k := 53) (b' := false) rfl (decide_eq_false hc)
                replace F := F.setb (k := 54) (b' := false) rfl (decide_eq_false hc)
                clear hc
                refine stpN F rfl rfl rfl (fun ac F => ?_)
                refine stpN F rfl rfl rfl (fun ac F => ?_)
                refine stpN F rfl rfl rfl (fun ac F => ?_)
                refine stp F (f_pickF rfl rfl) rfl rfl rfl (fun ac F => ?_)
                refine stp F (f_move rfl) rfl rfl rfl (fun ac F => ?_)
                refine stpN F rfl rfl rfl (fun ac F => ?_)
                refine stpN F rfl rfl rfl (fun ac F => ?_)
                refine stpN F rfl rfl rfl (fun ac F => ?_)
                refine stpN F rfl rfl rfl (fun ac F => ?_)
                refine stpN F rfl rfl rfl (fun ac F => ?_)
                refine stp F (f_pickF rfl rfl) rfl rfl rfl (fun ac F => ?_)
                refine stp F (f_not rfl) rfl rfl rfl (fun ac F => ?_)
                refine stp F (f_pickT rfl rfl) rfl rfl rfl (fun ac F => ?_)
                refine stpEnd ?_
                refine H80 _ _ ?_
                refine c_true F rfl ?_
                refine wp_exit ?_
                refine H65 _ _ ?_
                refine c_region ?_
                refine stp F (f_add (r := ((a + 1 : Nat) : Int)) rfl rfl (by rw [IntKind.wrap_i64]; omega)) rfl rfl rfl (fun ac F => ?_)
                refine stp F (f_move rfl) rfl rfl rfl (fun ac F => ?_)
                refine stpEnd ?_
                refine ⟨b - (a + 1), ?_, (a + 1), M2, F.sub ⟨rfl, rfl, rfl, rfl, rfl, rfl, rfl, rfl, rfl, rfl, rfl, trivial⟩, kp0, hh, hmat, hb37, by omega, hs2, by omega, rfl⟩
                omega
          · have hc := hc63
            replace F := F.setb (k := 41) (b' := false) rfl (decide_eq_false hc)
            clear hc
            refine c_false F rfl ?_
            refine wp_exit ?_
            refine H32 _ _ ?_
            refine c_region ?_
            refine stp F (f_add (r := ((b + 1 : Nat) : Int)) rfl rfl (by rw [IntKind.wrap_i64]; omega)) rfl rfl rfl (fun ac F => ?_)
            refine stp F (f_move rfl) rfl rfl rfl (fun ac F => ?_)
            refine stpEnd ?_
            refine ⟨h.length - (b + 1), ?_, (b + 1), gr1, M2, w52.heap.size, F.sub ⟨rfl, rfl, rfl, rfl, rfl, rfl, trivial⟩, kp0, hh, hmat, by omega, hs2, by omega, by omega, rfl⟩
            omega
      · have hc := hc30
        replace F := F.setb (k := 26) (b' := false) rfl (decide_eq_false hc)
        clear hc
        refine c_false F rfl ?_
        refine wp_exit ?_
        refine H21 _ _ ?_
        refine c_seq (fun K135 H136 => ?_)
        have hbN : b = h.length := by omega
        subst hbN
        have hob1 : w0.heap.size ≤ wl24.heap.size := by omega
        have hhi2 : hi ≤ wl24.heap.size := hhi
        refine c_region ?_
        refine stp F (f_assign rfl) rfl rfl rfl (fun ac F => ?_)
        refine stpEnd ?_
        refine H136 _ _ ?_
        refine c_seq (fun K137 H138 => ?_)
        refine c_seq (fun K139 H140 => ?_)
        refine c_region ?_
        refine stp F (f_move rfl) rfl rfl rfl (fun ac F => ?_)
        refine stp F (f_len rfl Try.underlying22) rfl rfl rfl (fun ac F => ?_)
        refine stp F (f_move rfl) rfl rfl rfl (fun ac F => ?_)
        refine stpEnd ?_
        refine H140 _ _ ?_
        refine wp_block ?_
        refine c_loop (fun mx ax wx => ∃ (a : Nat), ∃ (vs : List Value), ∃ (ps : List (Nat × Nat)), ∃ (A5 : Option Addr), ∃ (c5 : Nat), Fr ax 129 [(0, .slice A h.length c), (4, .int .i64 (checkF h)), (5, .slice (some ⟨g14, 0, none⟩) h.length h.length), (103, .slice A h.length c), (104, .int .i64 ((h.length : Nat) : Int)), (12, .slice A5 vs.length c5), (105, .int .i64 (a : Int))] ∧ Kp [] w0 wx ∧ Sl wx 0 w0.heap.size 3 A h.length c (evv h) ∧ Mat 93 4 wx w7.heap.size hi g14 h.length gr h.length M ∧ Own wx wl24.heap.size 36 2 A5 c5 vs ∧ (a ≤ h.length) ∧ (vs = ps.map pv) ∧ (∀ p ∈ ps, p.1 < h.length ∧ p.2 < h.length ∧ R p.1 p.2) ∧ (vs.length ≤ a * h.length) ∧ (wl24.heap.size ≤ wx.heap.size) ∧ mx = h.length - a) (h.length - 0) ?_ ?_
        · exact ⟨0, [], [], none, 0, F.sub ⟨rfl, rfl, rfl, rfl, rfl, rfl, rfl, trivial⟩, kp0, hh, hmat, (Own.nil _ _ _ _), by omega, rfl, by simp, by simp, by omega, rfl⟩
        · clear F kp0 hh hmat
          rintro m142 ac wl141 ⟨a, vs, ps, A5, c5, F, kp0, hh, hmat, ho, ha, hvs, hps, hln, hob2, hm⟩
          have hsz := kp0.size
          refine c_seq (fun K143 H144 => ?_)
          refine c_region ?_
          refine stp F (f_lss rfl rfl) rfl rfl rfl (fun ac F => ?_)
          refine stpEnd ?_
          refine H144 _ _ ?_
          refine c_seq (fun K145 H146 => ?_)
          by_cases hc147 : (a : Int) < ((h.length : Nat) : Int)
          · have hc := hc147
            replace F := F.setb (k := 106) (b' := true) rfl (decide_eq_true hc)
            clear hc
            refine c_true F rfl ?_
            refine wp_skip ?_
            refine H146 _ _ ?_
            refine c_seq (fun K148 H149 => ?_)
            refine wp_block ?_
            refine c_seq (fun K150 H151 => ?_)
            refine c_region ?_
            refine stp F (f_move rfl) rfl rfl rfl (fun ac F => ?_)
            refine stp F (f_assign rfl) rfl rfl rfl (fun ac F => ?_)
            refine stpEnd ?_
            refine H151 _ _ ?_
            refine c_seq (fun K152 H153 => ?_)
            refine c_region ?_
            refine stp F (f_move rfl) rfl rfl rfl (fun ac F => ?_)
            refine stp F (f_len rfl Try.underlying22) rfl rfl rfl (fun ac F => ?_)
            refine stp F (f_move rfl) rfl rfl rfl (fun ac F => ?_)
            refine stpEnd ?_
            refine H153 _ _ ?_
            refine wp_block ?_
            refine c_loop (fun mx ax wx => ∃ (b : Nat), ∃ (vs : List Value), ∃ (ps : List (Nat × Nat)), ∃ (A5 : Option Addr), ∃ (c5 : Nat), Fr ax 129 [(0, .slice A h.length c), (4, .int .i64 (checkF h)), (5, .slice (some ⟨g14, 0, none⟩) h.length h.length), (13, .int .i64 (a : Int)), (103, .slice A h.length c), (104, .int .i64 ((h.length : Nat) : Int)), (105, .int .i64 (a : Int)), (108, .slice A h.length c), (109, .int .i64 ((h.length : Nat) : Int)), (12, .slice A5 vs.length c5), (110, .int .i64 (b : Int))] ∧ Kp [] w0 wx ∧ Sl wx 0 w0.heap.size 3 A h.length c (evv h) ∧ Mat 93 4 wx w7.heap.size hi g14 h.length gr h.length M ∧ Own wx wl24.heap.size 36 2 A5 c5 vs ∧ (b ≤ h.length) ∧ (vs = ps.map pv) ∧ (∀ p ∈ ps, p.1 < h.length ∧ p.2 < h.length ∧ R p.1 p.2) ∧ (vs.length ≤ a * h.length + b) ∧ (wl24.heap.size ≤ wx.heap.size) ∧ mx = h.length - b) (h.length - 0) ?_ ?_
            · exact ⟨0, vs, ps, A5, c5, F.sub ⟨rfl, rfl, rfl, rfl, rfl, rfl, rfl, rfl, rfl, rfl, rfl, trivial⟩, kp0, hh, hmat, ho, by omega, hvs, hps, by omega, by omega, rfl⟩
            · clear F kp0 hh hmat ho
              rintro m155 ac wl154 ⟨b, vs, ps, A5, c5, F, kp0, hh, hmat, ho, hb, hvs, hps, hln, hob2, hm⟩
              have hsz := kp0.size
              have hob0 := ho.base_le
              have ham := Nat.mul_le_mul (show a ≤ 60 by omega) h60
              refine c_seq (fun K156 H157 => ?_)
              refine c_region ?_
              refine stp F (f_lss rfl rfl) rfl rfl rfl (fun ac F => ?_)
              refine stpEnd ?_
              refine H157 _ _ ?_
              refine c_seq (fun K158 H159 => ?_)
              by_cases hc160 : (b : Int) < ((h.length : Nat) : Int)
              · have hc := hc160
                replace F := F.setb (k := 111) (b' := true) rfl (decide_eq_true hc)
                clear hc
                refine c_true F rfl ?_
                refine wp_skip ?_
                refine H159 _ _ ?_
                refine c_seq (fun K161 H162 => ?_)
                refine wp_block ?_
                refine c_seq (fun K163 H164 => ?_)
                refine c_region ?_
                refine stp F (f_move rfl) rfl rfl rfl (fun ac F => ?_)
                refine stp F (f_assign rfl) rfl rfl rfl (fun ac F => ?_)
                refine stpEnd ?_
                refine H164 _ _ ?_
                refine c_seq (fun K165 H166 => ?_)
                refine c_region ?_
                refine stp F (f_move rfl) rfl rfl rfl (fun ac F => ?_)
                refine stp F (f_move rfl) rfl rfl rfl (fun ac F => ?_)
                refine stp F (f_indexS (r := ⟨g14, b * 1, none⟩) rfl rfl Try.underlying92 Try.sizeOf93 (by omega) (by omega) rfl (add_eq (by omega))) rfl rfl rfl (fun ac F => ?_)
                refine stp F (f_load1 (v := .slice (some ⟨(gr b), 0, none⟩) h.length h.length) rfl Try.isAgg93 ((hmat.tab.cell _).trans (tabL_get (i := b) (by omega) (by omega)))) rfl rfl rfl (fun ac F => ?_)
                refine stp F (f_move rfl) rfl rfl rfl (fun ac F => ?_)
                refine stp F (f_indexS (r := ⟨(gr b), a * 1, none⟩) rfl rfl Try.underlying93 Try.sizeOf4 (by omega) (by omega) rfl (add_eq (by omega))) rfl rfl rfl (fun ac F => ?_)
                refine stp F (f_load1 (v := .bool (M b a)) rfl Try.isAgg4 (((hmat.row b (by omega)).cell _).trans (boolsL_get (i := a) (by omega)))) rfl rfl rfl (fun ac F => ?_)
                refine stpEnd ?_
                refine H166 _ _ ?_
                by_cases hc167 : M b a = true
                · have hc := hc167
                  replace F := F.setb (k := 119) (b' := true) rfl (hc)
                  clear hc
                  refine c_true F rfl ?_
                  refine c_region ?_
                  refine stp F (f_move rfl) rfl rfl rfl (fun ac F => ?_)
                  refine stp F (f_move rfl) rfl rfl rfl (fun ac F => ?_)
                  refine stp F (f_move rfl) rfl rfl rfl (fun ac F => ?_)
                  refine stp F (f_build (vs := [(0, .int .i64 (a : Int)), (1, .int .i64 (b : Int))]) (v := .agg #[.int .i64 (a : Int), .int .i64 (b : Int)]) rfl (fun w => by kernel_rfl)) rfl rfl rfl (fun ac F => ?_)
                  refine stpE F (f_buildSlice (el := 36) (vs := [(0, .agg #[.int .i64 (a : Int), .int .i64 (b : Int)])]) (cs := [.int .i64 (a : Int), .int .i64 (b : Int)]) rfl (fun w => by kernel_rfl)) rfl rfl rfl ?_
                  rintro _ w169 ac ⟨g168, rfl, nb170⟩ F
                  have n172 := nb170.num
                  have z173 := nb170.size
                  have hsz := (nb170.kp).size
                  replace hh := hh.keep (nb170.kp) (by simp)
                  replace hmat := hmat.keep (nb170.kp) (by simp)
                  replace ho := ho.keep (nb170.kp) (by simp)
                  replace kp0 := kp0.trans (nb170.kp) (by simp)
                  have hb171 : Blk w169 g168 36 ([.int .i64 (a : Int), .int .i64 (b : Int)]) := nb170.blk
                  have hob := ho.base_le
                  refine stpE F (f_append1 (v := .agg #[.int .i64 (a : Int), .int .i64 (b : Int)]) (vs := vs) (bytes := 16) rfl rfl Try.underlying30 (i := Try.t36) (by kernel_rfl) rfl rfl rfl rfl (by decide) ho hb171 rfl (by simp [Value.cells, Value.oneCell']) (by omega) (by omega) (by omega)) rfl rfl rfl ?_
                  rintro _ w176 ac ⟨A174, c175, rfl, hap177, kq178, hbl⟩ F
                  have z179 := kq178.size
                  have hsz := (kq178).size
                  replace hh := hh.keep (kq178) (by intro x hx; have := ho.base_le x hx; omega)
                  replace hmat := hmat.keep (kq178) (by intro x hx; have := ho.base_le x hx; omega)
                  replace hb171 := hb171.keep (kq178) (by intro hx; have h1 := ho.base_le _ hx; (try have h2 := hob0 _ hx); omega)
                  replace kp0 := kp0.trans (kq178) (by intro x hx hl; have := ho.base_le x hx; omega)
                  replace ho : Own w176 wl24.heap.size 36 2 A174 c175 (vs ++ [.agg #[.int .i64 (a : Int), .int .i64 (b : Int)]]) := hap177
                  refine stp F (f_assign rfl) rfl rfl rfl (fun ac F => ?_)
                  refine stpEnd ?_
                  refine H162 _ _ ?_
                  refine c_region ?_
                  refine stp F (f_add (r := ((b + 1 : Nat) : Int)) rfl rfl (by rw [IntKind.wrap_i64]; omega)) rfl rfl rfl (fun ac F => ?_)
                  refine stp F (f_move rfl) rfl rfl rfl (fun ac F => ?_)
                  refine stpEnd ?_
                  refine ⟨h.length - (b + 1), ?_, (b + 1), (vs ++ [pv (a, b)]), (ps ++ [(a, b)]), A174, c175, F.sub ⟨rfl, rfl, rfl, rfl, rfl, rfl, rfl, rfl, rfl, rfl, rfl, trivial⟩, kp0, hh, hmat, ho, by omega, by rw [hvs]; simp, mem_more hps ⟨by omega, by omega, hs b (by omega) a hc167⟩, by simp; omega, by omega, rfl⟩
                  omega
                · have hc := hc167
                  replace F := F.setb (k := 119) (b' := false) rfl (Bool.eq_false_iff.2 hc)
                  clear hc
                  refine c_false F rfl ?_
                  refine wp_skip ?_
                  refine H162 _ _ ?_
                  refine c_region ?_
                  refine stp F (f_add (r := ((b + 1 : Nat) : Int)) rfl rfl (by rw [IntKind.wrap_i64]; omega)) rfl rfl rfl (fun ac F => ?_)
                  refine stp F (f_move rfl) rfl rfl rfl (fun ac F => ?_)
                  refine stpEnd ?_
                  refine ⟨h.length - (b + 1), ?_, (b + 1), vs, ps, A5, c5, F.sub ⟨rfl, rfl, rfl, rfl, rfl, rfl, rfl, rfl, rfl, rfl, rfl, trivial⟩, kp0, hh, hmat, ho, by omega, hvs, hps, by omega, by omega, rfl⟩
                  omega
              · have hc := hc160
                replace F := F.setb (k := 111) (b' := false) rfl (decide_eq_false hc)
                clear hc
                refine c_false F rfl ?_
                refine wp_exit ?_
                refine H149 _ _ ?_
                refine c_region ?_
                refine stp F (f_add (r := ((a + 1 : Nat) : Int)) rfl rfl (by rw [IntKind.wrap_i64]; omega)) rfl rfl rfl (fun ac F => ?_)
                refine stp F (f_move rfl) rfl rfl rfl (fun ac F => ?_)
                refine stpEnd ?_
                refine ⟨h.length - (a + 1), ?_, (a + 1), vs, ps, A5, c5, F.sub ⟨rfl, rfl, rfl, rfl, rfl, rfl, rfl, trivial⟩, kp0, hh, hmat, ho, by omega, hvs, hps, by rw [Nat.add_mul]; omega, by omega, rfl⟩
                omega
          · have hc := hc147
            replace F := F.setb (k := 106) (b' := false) rfl (decide_eq_false hc)
            clear hc
            refine c_false F rfl ?_
            refine wp_exit ?_
            refine H138 _ _ ?_
            refine c_seq (fun K180 H181 => ?_)
            refine c_region ?_
            refine stp F (f_move rfl) rfl rfl rfl (fun ac F => ?_)
            refine stp F (f_assign rfl) rfl rfl rfl (fun ac F => ?_)
            refine stp F (f_assign rfl) rfl rfl rfl (fun ac F => ?_)
            refine stpEnd ?_
            refine H181 _ _ ?_
            refine wp_ret ?_
            refine ret2 F rfl rfl rfl ?_
            have e1 : vs.length = ps.length := by rw [hvs]; simp
            exact ⟨A5, c5, ps, by rw [hcode, ← e1], kp0, by rw [← e1]; exact (ho.sl (by intro i v hi; rw [hvs] at hi; simp at hi; obtain ⟨x, y, hx, rfl⟩ := hi; simp [hx])).more (Nat.zero_le _) (Nat.le_refl _), fun _ => hps, by have ham2 := Nat.mul_le_mul (show a ≤ 60 by omega) h60; omega⟩
  · have hc := hc11
    replace F := F.setb (k := 18) (b' := true) rfl (nf (decide_eq_false hc))
    clear hc
    refine c_true F rfl ?_
    refine c_seq (fun K182 H183 => ?_)
    refine c_region ?_
    refine stp F (f_move rfl) rfl rfl rfl (fun ac F => ?_)
    refine stp F (f_assign rfl) rfl rfl rfl (fun ac F => ?_)
    refine stp F (f_assign rfl) rfl rfl rfl (fun ac F => ?_)
    refine stpEnd ?_
    refine H183 _ _ ?_
    refine wp_ret ?_
    refine ret2 F rfl rfl rfl ?_
    exact ⟨none, 0, [], rfl, kp0, Sl.nil _ _ _ _ _, fun h0 => absurd h0 hc11, by simp⟩

end Go.Proofs.Ytkbngaollbmcbaa.KK

namespace Go.Proofs.Ytkbngaollbmcbaa.KK
open Go Go.RowKit Go.Sort

set_option maxHeartbeats 4000000 in
theorem index_c (A : Option Addr) (n c : Nat) (t : List Int) (x : Int) (w0 : World) (hl : Sl w0 0 w0.heap.size 1 A n c (ivv t)) (hn : n < 4611686018427387904) : Calls Try.prog 45 #[.slice A n c, .int .i64 x] w0 (Ret fun v w' => ∃ r : Int, v = .int .i64 r ∧ Kp [] w0 w' ∧ (0 ≤ r ↔ ∃ i, i < n ∧ t.getD i 0 = x)) := by
  refine enter (n := 19) Try.func45 rfl rfl rfl (fun ac F => ?_)
  have kp0 := Kp.refl ([] : List Nat) w0
  refine c_seq (fun K1 H2 => ?_)
  refine c_region ?_
  refine stp F (f_assign rfl) rfl rfl rfl (fun ac F => ?_)
  refine stpEnd ?_
  refine H2 _ _ ?_
  refine c_seq (fun K3 H4 => ?_)
  refine c_seq (fun K5 H6 => ?_)
  refine c_region ?_
  refine stp F (f_move rfl) rfl rfl rfl (fun ac F => ?_)
  refine stp F (f_len rfl Try.underlying23) rfl rfl rfl (fun ac F => ?_)
  refine stp F (f_move rfl) rfl rfl rfl (fun ac F => ?_)
  refine stpEnd ?_
  refine H6 _ _ ?_
  refine wp_block ?_
  refine c_loop (fun mx ax wx => ∃ (k : Nat), Fr ax 19 [(0, .slice A n c), (1, .int .i64 x), (6, .slice A n c), (7, .int .i64 (n : Int)), (8, .int .i64 (k : Int))] ∧ Kp [] w0 wx ∧ Sl wx 0 w0.heap.size 1 A n c (ivv t) ∧ (k ≤ n) ∧ (∀ i, i < k → t.getD i 0 ≠ x) ∧ mx = n - k) (n - 0) ?_ ?_
  · exact ⟨0, F.sub ⟨rfl, rfl, rfl, rfl, rfl, trivial⟩, kp0, hl, by omega, fun i hi => by omega, rfl⟩
  · clear F kp0 hl
    rintro m8 ac wl7 ⟨k, F, kp0, hl, hk, hno, hm⟩
    have hsz := kp0.size
    refine c_seq (fun K9 H10 => ?_)
    refine c_region ?_
    refine stp F (f_lss rfl rfl) rfl rfl rfl (fun ac F => ?_)
    refine stpEnd ?_
    refine H10 _ _ ?_
    refine c_seq (fun K11 H12 => ?_)
    by_cases hc13 : (k : Int) < (n : Int)
    · have hc := hc13
      replace F := F.setb (k := 9) (b' := true) rfl (decide_eq_true hc)
      clear hc
      refine c_true F rfl ?_
      refine wp_skip ?_
      refine H12 _ _ ?_
      refine c_seq (fun K14 H15 => ?_)
      refine wp_block ?_
      refine c_seq (fun K16 H17 => ?_)
      refine c_region ?_
      refine stp F (f_move rfl) rfl rfl rfl (fun ac F => ?_)
      refine stp F (f_assign rfl) rfl rfl rfl (fun ac F => ?_)
      refine stpEnd ?_
      refine H17 _ _ ?_
      refine c_seq (fun K18 H19 => ?_)
      refine c_region ?_
      refine stp F (f_move rfl) rfl rfl rfl (fun ac F => ?_)
      refine stp F (f_move rfl) rfl rfl rfl (fun ac F => ?_)
      refine stp F (f_move rfl) rfl rfl rfl (fun ac F => ?_)
      refine stp F (f_indexS (r := ((adr A).add (k * 1))) rfl rfl Try.underlying23 Try.sizeOf3 (by omega) (by omega) (hl.some_ (by omega)).1 (by rw [show Int.toNat (k : Int) = k from by omega])) rfl rfl rfl (fun ac F => ?_)
      refine stp F (f_load1 (v := .int .i64 (t.getD k 0)) rfl Try.isAgg3 (hl.cell1 (i := k) (by omega) rfl rfl)) rfl rfl rfl (fun ac F => ?_)
      refine stp F (f_eql rfl rfl) rfl rfl rfl (fun ac F => ?_)
      refine stpEnd ?_
      refine H19 _ _ ?_
      by_cases hc20 : x = t.getD k 0
      · have hc := hc20
        replace F := F.setb (k := 16) (b' := true) rfl (decide_eq_true hc)
        clear hc
        refine c_true F rfl ?_
        refine c_seq (fun K21 H22 => ?_)
        refine c_region ?_
        refine stp F (f_move rfl) rfl rfl rfl (fun ac F => ?_)
        refine stp F (f_assign rfl) rfl rfl rfl (fun ac F => ?_)
        refine stpEnd ?_
        refine H22 _ _ ?_
        refine wp_ret ?_
        refine ret1 F rfl rfl ?_
        exact ⟨_, rfl, kp0, ⟨fun _ => ⟨k, by omega, hc20.symm⟩, fun _ => by omega⟩⟩
      · have hc := hc20
        replace F := F.setb (k := 16) (b' := false) rfl (decide_eq_false hc)
        clear hc
        refine c_false F rfl ?_
        refine wp_skip ?_
        refine H15 _ _ ?_
        refine c_region ?_
        refine stp F (f_add (r := ((k + 1 : Nat) : Int)) rfl rfl (by rw [IntKind.wrap_i64]; omega)) rfl rfl rfl (fun ac F => ?_)
        refine stp F (f_move rfl) rfl rfl rfl (fun ac F => ?_)
        refine stpEnd ?_
        refine ⟨n - (k + 1), ?_, (k + 1), F.sub ⟨rfl, rfl, rfl, rfl, rfl, trivial⟩, kp0, hl, by omega, fun i hi => by by_cases e : i = k; (subst e; exact fun e2 => hc20 e2.symm); exact hno i (by omega), rfl⟩
        omega
    · have hc := hc13
      replace F := F.setb (k := 9) (b' := false) rfl (decide_eq_false hc)
      clear hc
      refine c_false F rfl ?_
      refine wp_exit ?_
      refine H4 _ _ ?_
      refine c_seq (fun K23 H24 => ?_)
      refine c_region ?_
      refine stp F (f_assign rfl) rfl rfl rfl (fun ac F => ?_)
      refine stpEnd ?_
      refine H24 _ _ ?_
      refine wp_ret ?_
      refine ret1 F rfl rfl ?_
      exact ⟨_, rfl, kp0, ⟨fun h => absurd h (by decide), fun ⟨i, h1, h2⟩ => absurd h2 (hno i (by omega))⟩⟩

set_option maxHeartbeats 4000000 in
theorem contains_c (A : Option Addr) (n c : Nat) (t : List Int) (x : Int) (w0 : World) (hl : Sl w0 0 w0.heap.size 1 A n c (ivv t)) (hn : n < 4611686018427387904) : Calls Try.prog 10 #[.slice A n c, .int .i64 x] w0 (Ret fun v w' => ∃ b : Bool, v = .bool b ∧ Kp [] w0 w' ∧ (b = true ↔ ∃ i, i < n ∧ t.getD i 0 = x)) := by
  refine enter (n := 9) Try.func10 rfl rfl rfl (fun ac F => ?_)
  have kp0 := Kp.refl ([] : List Nat) w0
  refine c_seq (fun K1 H2 => ?_)
  refine c_region ?_
  refine stp F (f_assign rfl) rfl rfl rfl (fun ac F => ?_)
  refine stpEnd ?_
  refine H2 _ _ ?_
  refine c_seq (fun K3 H4 => ?_)
  refine c_region ?_
  refine stp F (f_move rfl) rfl rfl rfl (fun ac F => ?_)
  refine stp F (f_move rfl) rfl rfl rfl (fun ac F => ?_)
  refine stpC F (f_call (P := Try.prog) (f := 45) (vs := [.slice A n c, .int .i64 x]) rfl Try.call45) (index_c A n c t x _ (hl.more (Nat.zero_le _) (by omega)) hn) rfl rfl rfl ?_
  rintro _ w5 ac ⟨r7, rfl, kq6, hr⟩ F
  have hsz := (kq6).size
  replace hl := hl.keep (kq6) (by simp)
  replace kp0 := kp0.trans (kq6) (by simp)
  refine stp F (f_geq rfl rfl) rfl rfl rfl (fun ac F => ?_)
  refine stp F (f_assign rfl) rfl rfl rfl (fun ac F => ?_)
  refine stpEnd ?_
  refine H4 _ _ ?_
  refine wp_ret ?_
  refine ret1 F rfl rfl ?_
  exact ⟨_, rfl, kp0, by rw [← hr]; simp⟩

set_option maxHeartbeats 4000000 in
theorem indexf_c (A : Option Addr) (c fc : Nat) (ps : List (Nat × Nat)) (cb : Array Value) (q : Nat × Nat → Bool) (w0 : World) (hl : Sl w0 0 w0.heap.size 2 A ps.length c (fun k => pv (ps.getD k default))) (hE : Ent Try.prog fc) (hC : ∀ (W : World) (p : Nat × Nat), Kp [] w0 W → p ∈ ps → Calls Try.prog fc (#[] ++ [pv p].toArray ++ cb) W (Ret fun v w' => v = .bool (q p) ∧ Kp [] W w')) (hn : ps.length < 4611686018427387904) : Calls Try.prog 46 #[.slice A ps.length c, .func (.func fc) #[] cb] w0 (Ret fun v w' => ∃ r : Int, v = .int .i64 r ∧ Kp [] w0 w' ∧ (0 ≤ r ↔ ∃ p ∈ ps, q p = true)) := by
  refine enter (n := 19) Try.func46 rfl rfl rfl (fun ac F => ?_)
  have kp0 := Kp.refl ([] : List Nat) w0
  refine c_seq (fun K1 H2 => ?_)
  refine c_region ?_
  refine stp F (f_assign rfl) rfl rfl rfl (fun ac F => ?_)
  refine stpEnd ?_
  refine H2 _ _ ?_
  refine c_seq (fun K3 H4 => ?_)
  refine c_seq (fun K5 H6 => ?_)
  refine c_region ?_
  refine stp F (f_move rfl) rfl rfl rfl (fun ac F => ?_)
  refine stp F (f_len rfl Try.underlying30) rfl rfl rfl (fun ac F => ?_)
  refine stp F (f_move rfl) rfl rfl rfl (fun ac F => ?_)
  refine stpEnd ?_
  refine H6 _ _ ?_
  refine wp_block ?_
  refine c_loop (fun mx ax wx => ∃ (k : Nat), Fr ax 19 [(0, .slice A ps.length c), (1, .func (.func fc) #[] cb), (6, .slice A ps.length c), (7, .int .i64 ((ps.length : Nat) : Int)), (8, .int .i64 (k : Int))] ∧ Kp [] w0 wx ∧ Sl wx 0 w0.heap.size 2 A ps.length c (fun k => pv (ps.getD k default)) ∧ (k ≤ ps.length) ∧ (∀ i, i < k → ¬ q (ps.getD i default) = true) ∧ mx = ps.length - k) (ps.length - 0) ?_ ?_
  · exact ⟨0, F.sub ⟨rfl, rfl, rfl, rfl, rfl, trivial⟩, kp0, hl, by omega, fun i hi => by omega, rfl⟩
  · clear F kp0 hl
    rintro m8 ac wl7 ⟨k, F, kp0, hl, hk, hno, hm⟩
    have hsz := kp0.size
    refine c_seq (fun K9 H10 => ?_)
    refine c_region ?_
    refine stp F (f_lss rfl rfl) rfl rfl rfl (fun ac F => ?_)
    refine stpEnd ?_
    refine H10 _ _ ?_
    refine c_seq (fun K11 H12 => ?_)
    by_cases hc13 : (k : Int) < ((ps.length : Nat) : Int)
    · have hc := hc13
      replace F := F.setb (k := 9) (b' := true) rfl (decide_eq_true hc)
      clear hc
      refine c_true F rfl ?_
      refine wp_skip ?_
      refine H12 _ _ ?_
      refine c_seq (fun K14 H15 => ?_)
      refine wp_block ?_
      refine c_seq (fun K16 H17 => ?_)
      refine c_region ?_
      refine stp F (f_move rfl) rfl rfl rfl (fun ac F => ?_)
      refine stp F (f_assign rfl) rfl rfl rfl (fun ac F => ?_)
      refine stpEnd ?_
      refine H17 _ _ ?_
      refine c_seq (fun K18 H19 => ?_)
      refine c_region ?_
      refine stp F (f_move rfl) rfl rfl rfl (fun ac F => ?_)
      refine stp F (f_move rfl) rfl rfl rfl (fun ac F => ?_)
      refine stp F (f_move rfl) rfl rfl rfl (fun ac F => ?_)
      refine stp F (f_indexS (r := ((adr A).add (k * 2))) rfl rfl Try.underlying30 Try.sizeOf36 (by omega) (by omega) (hl.some_ (by omega)).1 (by rw [show Int.toNat (k : Int) = k from by omega])) rfl rfl rfl (fun ac F => ?_)
      refine stp F (f_loadN rfl Try.isAgg36 Try.sizeOf36 (hl.rd (i := k) (by omega) rfl)) rfl rfl rfl (fun ac F => ?_)
      refine stpC F (f_callV (vs := [.agg #[.int .i64 ((ps.getD k default).1 : Int), .int .i64 ((ps.getD k default).2 : Int)]]) rfl rfl hE) (hC _ (ps.getD k default) kp0 (getD_mem (by omega))) rfl rfl rfl ?_
      rintro _ w20 ac ⟨rfl, kq21⟩ F
      have hsz := (kq21).size
      replace hl := hl.keep (kq21) (by simp)
      replace kp0 := kp0.trans (kq21) (by simp)
      refine stpEnd ?_
      refine H19 _ _ ?_
      by_cases hc22 : q (ps.getD k default) = true
      · have hc := hc22
        replace F := F.setb (k := 16) (b' := true) rfl (hc)
        clear hc
        refine c_true F rfl ?_
        refine c_seq (fun K23 H24 => ?_)
        refine c_region ?_
        refine stp F (f_move rfl) rfl rfl rfl (fun ac F => ?_)
        refine stp F (f_assign rfl) rfl rfl rfl (fun ac F => ?_)
        refine stpEnd ?_
        refine H24 _ _ ?_
        refine wp_ret ?_
        refine ret1 F rfl rfl ?_
        exact ⟨_, rfl, kp0, ⟨fun _ => ⟨_, getD_mem (by omega), hc22⟩, fun _ => by omega⟩⟩
      · have hc := hc22
        replace F := F.setb (k := 16) (b' := false) rfl (Bool.eq_false_iff.2 hc)
        clear hc
        refine c_false F rfl ?_
        refine wp_skip ?_
        refine H15 _ _ ?_
        refine c_region ?_
        refine stp F (f_add (r := ((k + 1 : Nat) : Int)) rfl rfl (by rw [IntKind.wrap_i64]; omega)) rfl rfl rfl (fun ac F => ?_)
        refine stp F (f_move rfl) rfl rfl rfl (fun ac F => ?_)
        refine stpEnd ?_
        refine ⟨ps.length - (k + 1), ?_, (k + 1), F.sub ⟨rfl, rfl, rfl, rfl, rfl, trivial⟩, kp0, hl, by omega, fun i hi => by by_cases e : i = k; (subst e; exact hc22); exact hno i (by omega), rfl⟩
        omega
    · have hc := hc13
      replace F := F.setb (k := 9) (b' := false) rfl (decide_eq_false hc)
      clear hc
      refine c_false F rfl ?_
      refine wp_exit ?_
      refine H4 _ _ ?_
      refine c_seq (fun K25 H26 => ?_)
      refine c_region ?_
      refine stp F (f_assign rfl) rfl rfl rfl (fun ac F => ?_)
      refine stpEnd ?_
      refine H26 _ _ ?_
      refine wp_ret ?_
      refine ret1 F rfl rfl ?_
      exact ⟨_, rfl, kp0, ⟨fun h => absurd h (by decide), fun ⟨p, h1, h2⟩ => by obtain ⟨i, hi, he⟩ := mem_getD (d := default) h1; exact absurd (he ▸ h2) (hno i (by omega))⟩⟩

set_option maxHeartbeats 4000000 in
theorem containsf_c (A : Option Addr) (c fc : Nat) (ps : List (Nat × Nat)) (cb : Array Value) (q : Nat × Nat → Bool) (w0 : World) (hl : Sl w0 0 w0.heap.size 2 A ps.length c (fun k => pv (ps.getD k default))) (hE : Ent Try.prog fc) (hC : ∀ (W : World) (p : Nat × Nat), Kp [] w0 W → p ∈ ps → Calls Try.prog fc (#[] ++ [pv p].toArray ++ cb) W (Ret fun v w' => v = .bool (q p) ∧ Kp [] W w')) (hn : ps.length < 4611686018427387904) : Calls Try.prog 11 #[.slice A ps.length c, .func (.func fc) #[] cb] w0 (Ret fun v w' => ∃ b : Bool, v = .bool b ∧ Kp [] w0 w' ∧ (b = true ↔ ∃ p ∈ ps, q p = true)) := by
  refine enter (n := 9) Try.func11 rfl rfl rfl (fun ac F => ?_)
  have kp0 := Kp.refl ([] : List Nat) w0
  refine c_seq (fun K1 H2 => ?_)
  refine c_region ?_
  refine stp F (f_assign rfl) rfl rfl rfl (fun ac F => ?_)
  refine stpEnd ?_
  refine H2 _ _ ?_
  refine c_seq (fun K3 H4 => ?_)
  refine c_region ?_
  refine stp F (f_move rfl) rfl rfl rfl (fun ac F => ?_)
  refine stp F (f_move rfl) rfl rfl rfl (fun ac F => ?_)
  refine stpC F (f_call (P := Try.prog) (f := 46) (vs := [.slice A ps.length c, .func (.func fc) #[] cb]) rfl Try.call46) (indexf_c A c fc ps cb q _ (hl.more (Nat.zero_le _) (by omega)) hE hC hn) rfl rfl rfl ?_
  rintro _ w5 ac ⟨r7, rfl, kq6, hr⟩ F
  have hsz := (kq6).size
  replace hl := hl.keep (kq6) (by simp)
  replace kp0 := kp0.trans (kq6) (by simp)
  refine stp F (f_geq rfl rfl) rfl rfl rfl (fun ac F => ?_)
  refine stp F (f_assign rfl) rfl rfl rfl (fun ac F => ?_)
  refine stpEnd ?_
  refine H4 _ _ ?_
  refine wp_ret ?_
  refine ret1 F rfl rfl ?_
  exact ⟨_, rfl, kp0, by rw [← hr]; simp⟩

set_option maxHeartbeats 4000000 in
theorem equal_c (A B : Option Addr) (c e : Nat) (a b : List Int) (w0 : World) (hl : Sl w0 0 w0.heap.size 1 A a.length c (ivv a)) (hl2 : Sl w0 0 w0.heap.size 1 B b.length e (ivv b)) (hn : a.length < 4611686018427387904) : Calls Try.prog 8 #[.slice A a.length c, .slice B b.length e] w0 (Ret fun v w' => v = .bool (decide (a = b)) ∧ Kp [] w0 w') := by
  refine enter (n := 26) Try.func8 rfl rfl rfl (fun ac F => ?_)
  have kp0 := Kp.refl ([] : List Nat) w0
  refine c_seq (fun K1 H2 => ?_)
  refine c_region ?_
  refine stp F (f_assign rfl) rfl rfl rfl (fun ac F => ?_)
  refine stpEnd ?_
  refine H2 _ _ ?_
  refine c_seq (fun K3 H4 => ?_)
  refine c_seq (fun K5 H6 => ?_)
  refine c_region ?_
  refine stp F (f_move rfl) rfl rfl rfl (fun ac F => ?_)
  refine stp F (f_len rfl Try.underlying23) rfl rfl rfl (fun ac F => ?_)
  refine stp F (f_move rfl) rfl rfl rfl (fun ac F => ?_)
  refine stp F (f_len rfl Try.underlying23) rfl rfl rfl (fun ac F => ?_)
  refine stp F (f_neq rfl rfl) rfl rfl rfl (fun ac F => ?_)
  refine stpEnd ?_
  refine H6 _ _ ?_
  by_cases hc7 : ((a.length : Nat) : Int) = ((b.length : Nat) : Int)
  · have hc := hc7
    replace F := F.setb (k := 10) (b' := false) rfl (nt (decide_eq_true hc))
    clear hc
    refine c_false F rfl ?_
    refine wp_skip ?_
    refine H4 _ _ ?_
    refine c_seq (fun K8 H9 => ?_)
    refine c_seq (fun K10 H11 => ?_)
    refine c_region ?_
    refine stp F (f_move rfl) rfl rfl rfl (fun ac F => ?_)
    refine stp F (f_len rfl Try.underlying23) rfl rfl rfl (fun ac F => ?_)
    refine stp F (f_move rfl) rfl rfl rfl (fun ac F => ?_)
    refine stpEnd ?_
    refine H11 _ _ ?_
    refine wp_block ?_
    refine c_loop (fun mx ax wx => ∃ (k : Nat), Fr ax 26 [(0, .slice A a.length c), (1, .slice B b.length e), (11, .slice A a.length c), (12, .int .i64 ((a.length : Nat) : Int)), (13, .int .i64 (k : Int))] ∧ Kp [] w0 wx ∧ Sl wx 0 w0.heap.size 1 A a.length c (ivv a) ∧ Sl wx 0 w0.heap.size 1 B b.length e (ivv b) ∧ (k ≤ a.length) ∧ (∀ i, i < k → a.getD i 0 = b.getD i 0) ∧ mx = a.length - k) (a.length - 0) ?_ ?_
    · exact ⟨0, F.sub ⟨rfl, rfl, rfl, rfl, rfl, trivial⟩, kp0, hl, hl2, by omega, fun i hi => by omega, rfl⟩
    · clear F kp0 hl hl2
      rintro m13 ac wl12 ⟨k, F, kp0, hl, hl2, hk, hno, hm⟩
      have hsz := kp0.size
      have hlen : a.length = b.length := by omega
      refine c_seq (fun K14 H15 => ?_)
      refine c_region ?_
      refine stp F (f_lss rfl rfl) rfl rfl rfl (fun ac F => ?_)
      refine stpEnd ?_
      refine H15 _ _ ?_
      refine c_seq (fun K16 H17 => ?_)
      by_cases hc18 : (k : Int) < ((a.length : Nat) : Int)
      · have hc := hc18
        replace F := F.setb (k := 14) (b' := true) rfl (decide_eq_true hc)
        clear hc
        refine c_true F rfl ?_
        refine wp_skip ?_
        refine H17 _ _ ?_
        refine c_seq (fun K19 H20 => ?_)
        refine wp_block ?_
        refine c_seq (fun K21 H22 => ?_)
        refine c_region ?_
        refine stp F (f_move rfl) rfl rfl rfl (fun ac F => ?_)
        refine stp F (f_assign rfl) rfl rfl rfl (fun ac F => ?_)
        refine stpEnd ?_
        refine H22 _ _ ?_
        refine c_seq (fun K23 H24 => ?_)
        refine c_draw 9 (by rfl) (by decide +kernel) (fun wx => Kp [] wl12 wx) (Kp.drew _) ?_
        refine tP F rfl (fun wq => f_move rfl) rfl rfl rfl (fun ac F => ?_)
        refine tP F rfl (fun wq => f_move rfl) rfl rfl rfl (fun ac F => ?_)
        refine tP F rfl (fun wq => f_indexS (r := ((adr A).add (k * 1))) rfl rfl Try.underlying23 Try.sizeOf3 (by omega) (by omega) (hl.some_ (by omega)).1 (by rw [show Int.toNat (k : Int) = k from by omega])) rfl rfl rfl (fun ac F => ?_)
        refine tQ F rfl (fun wq hq => f_load1 (v := .int .i64 (a.getD k 0)) rfl Try.isAgg3 ((hl.keep hq (by simp)).cell1 (i := k) (by omega) rfl rfl)) rfl rfl rfl (fun ac F => ?_)
        refine tP F rfl (fun wq => f_move rfl) rfl rfl rfl (fun ac F => ?_)
        refine tP F rfl (fun wq => f_move rfl) rfl rfl rfl (fun ac F => ?_)
        refine tP F rfl (fun wq => f_indexS (r := ((adr B).add (k * 1))) rfl rfl Try.underlying23 Try.sizeOf3 (by omega) (by omega) (hl2.some_ (by omega)).1 (by rw [show Int.toNat (k : Int) = k from by omega])) rfl rfl rfl (fun ac F => ?_)
        refine tQ F rfl (fun wq hq => f_load1 (v := .int .i64 (b.getD k 0)) rfl Try.isAgg3 ((hl2.keep hq (by simp)).cell1 (i := k) (by omega) rfl rfl)) rfl rfl rfl (fun ac F => ?_)
        refine tP F rfl (fun wq => f_neq rfl rfl) rfl rfl rfl (fun ac F => ?_)
        refine tEnd (fun w25 hq => ?_)
        have hsz := hq.size
        replace hl := hl.keep hq (by simp)
        replace hl2 := hl2.keep hq (by simp)
        replace kp0 := kp0.trans hq (by simp)
        refine H24 _ _ ?_
        by_cases hc26 : a.getD k 0 = b.getD k 0
        · have hc := hc26
          replace F := F.setb (k := 24) (b' := false) rfl (nt (decide_eq_true hc))
          clear hc
          refine c_false F rfl ?_
          refine wp_skip ?_
          refine H20 _ _ ?_
          refine c_region ?_
          refine stp F (f_add (r := ((k + 1 : Nat) : Int)) rfl rfl (by rw [IntKind.wrap_i64]; omega)) rfl rfl rfl (fun ac F => ?_)
          refine stp F (f_move rfl) rfl rfl rfl (fun ac F => ?_)
          refine stpEnd ?_
          refine ⟨a.length - (k + 1), ?_, (k + 1), F.sub ⟨rfl, rfl, rfl, rfl, rfl, trivial⟩, kp0, hl, hl2, by omega, fun i hi => by by_cases e : i = k; (subst e; exact hc26); exact hno i (by omega), rfl⟩
          omega
        · have hc := hc26
          replace F := F.setb (k := 24) (b' := true) rfl (nf (decide_eq_false hc))
          clear hc
          refine c_true F rfl ?_
          refine c_seq (fun K27 H28 => ?_)
          refine c_region ?_
          refine stp F (f_assign rfl) rfl rfl rfl (fun ac F => ?_)
          refine stpEnd ?_
          refine H28 _ _ ?_
          refine wp_ret ?_
          refine ret1 F rfl rfl ?_
          exact ⟨by rw [decide_eq_false (fun e => hc26 (by rw [e]))], kp0⟩
      · have hc := hc18
        replace F := F.setb (k := 14) (b' := false) rfl (decide_eq_false hc)
        clear hc
        refine c_false F rfl ?_
        refine wp_exit ?_
        refine H9 _ _ ?_
        refine c_seq (fun K29 H30 => ?_)
        refine c_region ?_
        refine stp F (f_assign rfl) rfl rfl rfl (fun ac F => ?_)
        refine stpEnd ?_
        refine H30 _ _ ?_
        refine wp_ret ?_
        refine ret1 F rfl rfl ?_
        exact ⟨by rw [decide_eq_true (list_ext (by omega) (fun i hi => hno i (by omega)))], kp0⟩
  · have hc := hc7
    replace F := F.setb (k := 10) (b' := true) rfl (nf (decide_eq_false hc))
    clear hc
    refine c_true F rfl ?_
    refine c_seq (fun K31 H32 => ?_)
    refine c_region ?_
    refine stp F (f_assign rfl) rfl rfl rfl (fun ac F => ?_)
    refine stpEnd ?_
    refine H32 _ _ ?_
    refine wp_ret ?_
    refine ret1 F rfl rfl ?_
    exact ⟨by rw [decide_eq_false (fun e => hc7 (by rw [e]))], kp0⟩

set_option maxHeartbeats 4000000 in
theorem law1_c (g gp n : Nat) (d : Array Int) (p : Nat × Nat) (w0 : World) (hbp : Blk w0 gp 23 ([.slice (some ⟨g, 0, none⟩) n n])) (hd : Blk w0 g 3 (rowI d ([]))) (hsz : d.size = n) (h1 : p.1 < n) (h2 : p.2 < n) : Calls Try.prog 12 #[.agg #[.int .i64 ((p.1 : Nat) : Int), .int .i64 ((p.2 : Nat) : Int)], .pointer (some ⟨gp, 0, none⟩)] w0 (Ret fun v w' => v = .bool (decide (d[p.2]! ≤ d[p.1]!)) ∧ Kp [] w0 w') := by
  refine enter (n := 15) Try.func12 rfl rfl rfl (fun ac F => ?_)
  have kp0 := Kp.refl ([] : List Nat) w0
  refine c_seq (fun K1 H2 => ?_)
  refine c_region ?_
  refine stpE F (f_box (cs := [.int .i64 ((p.1 : Nat) : Int), .int .i64 ((p.2 : Nat) : Int)]) rfl rfl) rfl rfl rfl ?_
  rintro _ w4 ac ⟨g3, rfl, nb6⟩ F
  have n7 := nb6.num
  have z8 := nb6.size
  have hsz := (nb6.kp).size
  replace hbp := hbp.keep (nb6.kp) (by simp)
  replace hd := hd.keep (nb6.kp) (by simp)
  replace kp0 := kp0.trans (nb6.kp) (by simp)
  have hb5 : Blk w4 g3 36 ([.int .i64 ((p.1 : Nat) : Int), .int .i64 ((p.2 : Nat) : Int)]) := nb6.blk
  refine stp F (f_assign rfl) rfl rfl rfl (fun ac F => ?_)
  refine stpEnd ?_
  refine H2 _ _ ?_
  refine c_seq (fun K9 H10 => ?_)
  refine c_draw 12 (by rfl) (by decide +kernel) (fun wx => Kp [] w4 wx) (Kp.drew _) ?_
  refine tQ F rfl (fun wq hq => f_load1 (v := .slice (some ⟨g, 0, none⟩) n n) rfl Try.isAgg23 (((hbp.keep hq (by simp)).cell 0).trans rfl)) rfl rfl rfl (fun ac F => ?_)
  refine tP F rfl (fun wq => f_fieldAddr (r := ⟨g3, 0, none⟩) (sz := 0) rfl Try.underlying36 rfl Try.sizeOf3 rfl) rfl rfl rfl (fun ac F => ?_)
  refine tQ F rfl (fun wq hq => f_load1 (v := .int .i64 ((p.1 : Nat) : Int)) rfl Try.isAgg3 (((hb5.keep hq (by simp)).cell 0).trans rfl)) rfl rfl rfl (fun ac F => ?_)
  refine tP F rfl (fun wq => f_indexS (r := ⟨g, p.1 * 1, none⟩) rfl rfl Try.underlying23 Try.sizeOf3 (by omega) (by omega) rfl (add_eq (by omega))) rfl rfl rfl (fun ac F => ?_)
  refine tQ F rfl (fun wq hq => f_load1 (v := .int .i64 (d[p.1]!)) rfl Try.isAgg3 (((hd.keep hq (by simp)).cell _).trans (rowI_get (i := p.1) (by (try simp only [Array.size_setIfInBounds]); omega)))) rfl rfl rfl (fun ac F => ?_)
  refine tQ F rfl (fun wq hq => f_load1 (v := .slice (some ⟨g, 0, none⟩) n n) rfl Try.isAgg23 (((hbp.keep hq (by simp)).cell 0).trans rfl)) rfl rfl rfl (fun ac F => ?_)
  refine tP F rfl (fun wq => f_fieldAddr (r := ⟨g3, 1, none⟩) (sz := 0) rfl Try.underlying36 rfl Try.sizeOf3 rfl) rfl rfl rfl (fun ac F => ?_)
  refine tQ F rfl (fun wq hq => f_load1 (v := .int .i64 ((p.2 : Nat) : Int)) rfl Try.isAgg3 (((hb5.keep hq (by simp)).cell 1).trans rfl)) rfl rfl rfl (fun ac F => ?_)
  refine tP F rfl (fun wq => f_indexS (r := ⟨g, p.2 * 1, none⟩) rfl rfl Try.underlying23 Try.sizeOf3 (by omega) (by omega) rfl (add_eq (by omega))) rfl rfl rfl (fun ac F => ?_)
  refine tQ F rfl (fun wq hq => f_load1 (v := .int .i64 (d[p.2]!)) rfl Try.isAgg3 (((hd.keep hq (by simp)).cell _).trans (rowI_get (i := p.2) (by (try simp only [Array.size_setIfInBounds]); omega)))) rfl rfl rfl (fun ac F => ?_)
  refine tP F rfl (fun wq => f_geq rfl rfl) rfl rfl rfl (fun ac F => ?_)
  refine tP F rfl (fun wq => f_assign rfl) rfl rfl rfl (fun ac F => ?_)
  refine tEnd (fun w11 hq => ?_)
  have hsz := hq.size
  replace hbp := hbp.keep hq (by simp)
  replace hd := hd.keep hq (by simp)
  replace hb5 := hb5.keep hq (by simp)
  replace kp0 := kp0.trans hq (by simp)
  refine H10 _ _ ?_
  refine wp_ret ?_
  refine ret1 F rfl rfl ?_
  exact ⟨rfl, kp0⟩

set_option maxHeartbeats 4000000 in
theorem law_c (A : Option Addr) (c : Nat) (h : List Ev) (w0 : World) (hh : Sl w0 0 w0.heap.size 3 A h.length c (evv h)) : Calls Try.prog 3 #[.slice A h.length c] w0 (Ret fun v w' => v = .bool true ∧ Kp [] w0 w') := by
  refine enter (n := 87) Try.func3 rfl rfl rfl (fun ac F => ?_)
  have kp0 := Kp.refl ([] : List Nat) w0
  refine c_seq (fun K1 H2 => ?_)
  refine c_region ?_
  refine stp F (f_assign rfl) rfl rfl rfl (fun ac F => ?_)
  refine stpEnd ?_
  refine H2 _ _ ?_
  refine c_seq (fun K3 H4 => ?_)
  refine c_seq (fun K5 H6 => ?_)
  refine c_region ?_
  refine stp F (f_build (vs := [(0, .int .i64 1), (1, .int .i64 1)]) (v := .agg #[.int .i64 1, .int .i64 1, .int .i64 0]) rfl (fun w => by kernel_rfl)) rfl rfl rfl (fun ac F => ?_)
  refine stp F (f_build (vs := [(0, .int .i64 0), (1, .int .i64 1)]) (v := .agg #[.int .i64 0, .int .i64 1, .int .i64 0]) rfl (fun w => by kernel_rfl)) rfl rfl rfl (fun ac F => ?_)
  refine stpE F (f_buildSlice (el := 28) (vs := [(0, .agg #[.int .i64 1, .int .i64 1, .int .i64 0]), (1, .agg #[.int .i64 0, .int .i64 1, .int .i64 0])]) (cs := [.int .i64 1, .int .i64 1, .int .i64 0, .int .i64 0, .int .i64 1, .int .i64 0]) rfl (fun w => by kernel_rfl)) rfl rfl rfl ?_
  rintro _ w8 ac ⟨g7, rfl, nb9⟩ F
  have n11 := nb9.num
  have z12 := nb9.size
  have hsz := (nb9.kp).size
  replace hh := hh.keep (nb9.kp) (by simp)
  replace kp0 := kp0.trans (nb9.kp) (by simp)
  have hb10 : Blk w8 g7 28 ([.int .i64 1, .int .i64 1, .int .i64 0, .int .i64 0, .int .i64 1, .int .i64 0]) := nb9.blk
  refine stpC F (f_call (P := Try.prog) (f := 7) (vs := [.slice (some ⟨g7, 0, none⟩) 2 2]) rfl Try.call7) (total_c _ _ ev0 _ (Blk.slEv (h := ev0) hb10)) rfl rfl rfl ?_
  rintro _ w13 ac ⟨A1, c1, t1, rfl, kq14, hl1, htot1⟩ F
  have hsz := (kq14).size
  replace hh := hh.keep (kq14) (by simp)
  replace hb10 := hb10.keep (kq14) (by simp)
  replace kp0 := kp0.trans (kq14) (by simp)
  have ht1 := tot0 (htot1 ck0)
  refine stp F (f_move rfl) rfl rfl rfl (fun ac F => ?_)
  refine stp F (f_extract (vs := [.slice A1 t1.length c1, .int .i64 (checkF ev0)]) rfl rfl) rfl rfl rfl (fun ac F => ?_)
  refine stp F (f_extract (vs := [.slice A1 t1.length c1, .int .i64 (checkF ev0)]) rfl rfl) rfl rfl rfl (fun ac F => ?_)
  refine stp F (f_assign rfl) rfl rfl rfl (fun ac F => ?_)
  refine stp F (f_assign rfl) rfl rfl rfl (fun ac F => ?_)
  refine stpEnd ?_
  refine H6 _ _ ?_
  refine c_seq (fun K15 H16 => ?_)
  refine c_region ?_
  refine stp F (f_move rfl) rfl rfl rfl (fun ac F => ?_)
  refine stp F (f_neq rfl rfl) rfl rfl rfl (fun ac F => ?_)
  refine stp F (f_move rfl) rfl rfl rfl (fun ac F => ?_)
  have hc : checkF ev0 = 0 := by exact ck0
  replace F := F.setb (k := 20) (b' := false) rfl (nt (decide_eq_true hc))
  replace F := F.setb (k := 21) (b' := false) rfl (nt (decide_eq_true hc))
  refine stp F (f_move rfl) rfl rfl rfl (fun ac F => ?_)
  refine stpE F (f_buildSlice (el := 3) (vs := [(0, .int .i64 1), (1, .int .i64 0)]) (cs := [.int .i64 1, .int .i64 0]) rfl (fun w => by kernel_rfl)) rfl rfl rfl ?_
  rintro _ w18 ac ⟨g17, rfl, nb19⟩ F
  have n21 := nb19.num
  have z22 := nb19.size
  have hsz := (nb19.kp).size
  replace hh := hh.keep (nb19.kp) (by simp)
  replace hb10 := hb10.keep (nb19.kp) (by simp)
  replace hl1 := hl1.keep (nb19.kp) (by simp)
  replace kp0 := kp0.trans (nb19.kp) (by simp)
  have hb20 : Blk w18 g17 3 ([.int .i64 1, .int .i64 0]) := nb19.blk
  refine stpC F (f_call (P := Try.prog) (f := 8) (vs := [.slice A1 t1.length c1, .slice (some ⟨g17, 0, none⟩) 2 2]) rfl Try.call8) (equal_c _ _ _ _ t1 [1, 0] _ (hl1.more (Nat.zero_le _) (by omega)) (Blk.sl (l := [1, 0]) (post := []) hb20 (Nat.le_refl _)) (by rw [ht1]; decide)) rfl rfl rfl ?_
  rintro _ w23 ac ⟨rfl, kq24⟩ F
  have hsz := (kq24).size
  replace hh := hh.keep (kq24) (by simp)
  replace hb10 := hb10.keep (kq24) (by simp)
  replace hl1 := hl1.keep (kq24) (by simp)
  replace hb20 := hb20.keep (kq24) (by simp)
  replace kp0 := kp0.trans (kq24) (by simp)
  refine stp F (f_not rfl) rfl rfl rfl (fun ac F => ?_)
  refine stp F (f_pickF rfl rfl) rfl rfl rfl (fun ac F => ?_)
  refine stpEnd ?_
  refine H16 _ _ ?_
  have hc : t1 = [1, 0] := by exact ht1
  replace F := F.setb (k := 24) (b' := true) rfl (decide_eq_true hc)
  replace F := F.setb (k := 25) (b' := false) rfl (nt (decide_eq_true hc))
  replace F := F.setb (k := 26) (b' := false) rfl (nt (decide_eq_true hc))
  refine c_false F rfl ?_
  refine wp_skip ?_
  refine H4 _ _ ?_
  refine c_seq (fun K25 H26 => ?_)
  refine c_region ?_
  refine stp F (f_move rfl) rfl rfl rfl (fun ac F => ?_)
  refine stpC F (f_call (P := Try.prog) (f := 7) (vs := [.slice A h.length c]) rfl Try.call7) (total_c A c h _ (hh.more (Nat.zero_le _) (by omega))) rfl rfl rfl ?_
  rintro _ w27 ac ⟨A2, c2, t, rfl, kq28, hlt, htot⟩ F
  have hsz := (kq28).size
  replace hh := hh.keep (kq28) (by simp)
  replace hb10 := hb10.keep (kq28) (by simp)
  replace hl1 := hl1.keep (kq28) (by simp)
  replace hb20 := hb20.keep (kq28) (by simp)
  replace kp0 := kp0.trans (kq28) (by simp)
  refine stp F (f_move rfl) rfl rfl rfl (fun ac F => ?_)
  refine stp F (f_extract (vs := [.slice A2 t.length c2, .int .i64 (checkF h)]) rfl rfl) rfl rfl rfl (fun ac F => ?_)
  refine stp F (f_extract (vs := [.slice A2 t.length c2, .int .i64 (checkF h)]) rfl rfl) rfl rfl rfl (fun ac F => ?_)
  refine stp F (f_assign rfl) rfl rfl rfl (fun ac F => ?_)
  refine stp F (f_assign rfl) rfl rfl rfl (fun ac F => ?_)
  refine stpEnd ?_
  refine H26 _ _ ?_
  refine c_seq (fun K29 H30 => ?_)
  refine c_region ?_
  refine stp F (f_move rfl) rfl rfl rfl (fun ac F => ?_)
  refine stpC F (f_call (P := Try.prog) (f := 9) (vs := [.slice A h.length c]) rfl Try.call9) (ahead_c A c h (StR h) (StR.trans h) (StR.base h) _ (hh.more (Nat.zero_le _) (by omega))) rfl rfl rfl ?_
  rintro _ w31 ac ⟨A3, c3, ps, rfl, kq32, hps, hpR, hpl⟩ F
  have hsz := (kq32).size
  replace hh := hh.keep (kq32) (by simp)
  replace hb10 := hb10.keep (kq32) (by simp)
  replace hl1 := hl1.keep (kq32) (by simp)
  replace hb20 := hb20.keep (kq32) (by simp)
  replace hlt := hlt.keep (kq32) (by simp)
  replace kp0 := kp0.trans (kq32) (by simp)
  refine stp F (f_move rfl) rfl rfl rfl (fun ac F => ?_)
  refine stp F (f_extract (vs := [.slice A3 ps.length c3, .int .i64 (checkF h)]) rfl rfl) rfl rfl rfl (fun ac F => ?_)
  refine stp F (f_extract (vs := [.slice A3 ps.length c3, .int .i64 (checkF h)]) rfl rfl) rfl rfl rfl (fun ac F => ?_)
  refine stp F (f_assign rfl) rfl rfl rfl (fun ac F => ?_)
  refine stp F (f_assign rfl) rfl rfl rfl (fun ac F => ?_)
  refine stpEnd ?_
  refine H30 _ _ ?_
  refine c_seq (fun K33 H34 => ?_)
  refine c_seq (fun K35 H36 => ?_)
  refine c_region ?_
  refine stp F (f_move rfl) rfl rfl rfl (fun ac F => ?_)
  refine stp F (f_neq rfl rfl) rfl rfl rfl (fun ac F => ?_)
  refine stp F (f_move rfl) rfl rfl rfl (fun ac F => ?_)
  by_cases hc37 : checkF h = 0
  · have hc := hc37
    replace F := F.setb (k := 38) (b' := false) rfl (nt (decide_eq_true hc))
    replace F := F.setb (k := 39) (b' := false) rfl (nt (decide_eq_true hc))
    clear hc
    refine stp F (f_move rfl) rfl rfl rfl (fun ac F => ?_)
    refine stp F (f_neq rfl rfl) rfl rfl rfl (fun ac F => ?_)
    refine stp F (f_pickF rfl rfl) rfl rfl rfl (fun ac F => ?_)
    refine stpEnd ?_
    refine H36 _ _ ?_
    have hc : checkF h = 0 := by assumption
    replace F := F.setb (k := 41) (b' := false) rfl (nt (decide_eq_true hc))
    replace F := F.setb (k := 42) (b' := false) rfl (nt (decide_eq_true hc))
    refine c_false F rfl ?_
    refine wp_skip ?_
    refine H34 _ _ ?_
    refine c_seq (fun K38 H39 => ?_)
    have hcode : checkF h = 0 := hc37
    have h60 := (checkF_ok hcode).1
    have htok := htot hcode
    have htl := htok.len
    refine c_region ?_
    refine stp F (f_move rfl) rfl rfl rfl (fun ac F => ?_)
    refine stp F (f_len rfl Try.underlying22) rfl rfl rfl (fun ac F => ?_)
    refine stpE F (f_makeSlice (m := h.length) (z := .int .i64 0) (i := Try.t3) rfl rfl Try.underlying23 (by kernel_rfl) (by kernel_rfl) rfl rfl (by show 8 * _ ≤ _; omega) (by omega)) rfl rfl rfl ?_
    rintro _ w41 ac ⟨g40, rfl, nb42⟩ F
    have n44 := nb42.num
    have z45 := nb42.size
    have hsz := (nb42.kp).size
    replace hh := hh.keep (nb42.kp) (by simp)
    replace hb10 := hb10.keep (nb42.kp) (by simp)
    replace hl1 := hl1.keep (nb42.kp) (by simp)
    replace hb20 := hb20.keep (nb42.kp) (by simp)
    replace hlt := hlt.keep (nb42.kp) (by simp)
    replace hps := hps.keep (nb42.kp) (by simp)
    replace kp0 := kp0.trans (nb42.kp) (by simp)
    have hb43 : Blk w41 g40 3 (List.replicate h.length (.int .i64 0)) := nb42.blk
    refine stpE F (f_alloc (cs := [.slice none 0 0]) Try.zeroValue23 rfl) rfl rfl rfl ?_
    rintro _ w47 ac ⟨g46, rfl, nb49⟩ F
    have n50 := nb49.num
    have z51 := nb49.size
    have hsz := (nb49.kp).size
    replace hh := hh.keep (nb49.kp) (by simp)
    replace hb10 := hb10.keep (nb49.kp) (by simp)
    replace hl1 := hl1.keep (nb49.kp) (by simp)
    replace hb20 := hb20.keep (nb49.kp) (by simp)
    replace hlt := hlt.keep (nb49.kp) (by simp)
    replace hps := hps.keep (nb49.kp) (by simp)
    replace hb43 := hb43.keep (nb49.kp) (by simp)
    replace kp0 := kp0.trans (nb49.kp) (by simp)
    have hb48 : Blk w47 g46 23 ([.slice none 0 0]) := nb49.blk
    refine stpW F (f_store (v := .slice (some ⟨g40, 0, none⟩) h.length h.length) (vs := [.slice (some ⟨g40, 0, none⟩) h.length h.length]) rfl rfl hb48 Try.sizeOf23 rfl rfl (by simp) (by simp [plainV])) rfl rfl ?_
    rintro w52 ac wr53 F
    have z54 := wr53.size
    have hsz := (wr53.kp).size
    replace hh := hh.keep (wr53.kp) (by intro x hx; simp at hx; omega)
    replace hb10 := hb10.keep (wr53.kp) (by have := hb10.lt; simp; omega)
    replace hl1 := hl1.keep (wr53.kp) (by intro x hx; simp at hx; omega)
    replace hb20 := hb20.keep (wr53.kp) (by have := hb20.lt; simp; omega)
    replace hlt := hlt.keep (wr53.kp) (by intro x hx; simp at hx; omega)
    replace hps := hps.keep (wr53.kp) (by intro x hx; simp at hx; omega)
    replace hb43 := hb43.keep (wr53.kp) (by have := hb43.lt; simp; omega)
    replace kp0 := kp0.trans (wr53.kp) (by intro x hx hl; simp at hx; omega)
    replace hb48 : Blk w52 g46 23 ([.slice (some ⟨g40, 0, none⟩) h.length h.length]) := wr53.blk
    refine stpEnd ?_
    have hd := hb43
    rw [rowI_zero] at hd
    refine H39 _ _ ?_
    refine c_seq (fun K55 H56 => ?_)
    refine c_seq (fun K57 H58 => ?_)
    refine c_region ?_
    refine stp F (f_move rfl) rfl rfl rfl (fun ac F => ?_)
    refine stp F (f_len rfl Try.underlying23) rfl rfl rfl (fun ac F => ?_)
    refine stp F (f_move rfl) rfl rfl rfl (fun ac F => ?_)
    refine stpEnd ?_
    refine H58 _ _ ?_
    refine wp_block ?_
    refine c_loop (fun mx ax wx => ∃ (k : Nat), ∃ (d : Array Int), Fr ax 87 [(0, .slice A h.length c), (5, .slice A2 t.length c2), (7, .slice A3 ps.length c3), (9, .pointer (some ⟨g46, 0, none⟩)), (49, .slice A2 t.length c2), (50, .int .i64 ((t.length : Nat) : Int)), (51, .int .i64 (k : Int))] ∧ Kp [] w0 wx ∧ Sl wx 0 w0.heap.size 3 A h.length c (evv h) ∧ Sl wx 0 w27.heap.size 1 A2 t.length c2 (ivv t) ∧ Sl wx 0 w31.heap.size 2 A3 ps.length c3 (fun k => pv (ps.getD k default)) ∧ Blk wx g46 23 ([.slice (some ⟨g40, 0, none⟩) h.length h.length]) ∧ Blk wx g40 3 (rowI d ([])) ∧ (k ≤ t.length) ∧ (d.size = h.length) ∧ (∀ i, i < k → d[(t.getD i 0).toNat]! = (i : Int)) ∧ mx = t.length - k) (t.length - 0) ?_ ?_
    · exact ⟨0, (Array.replicate h.length 0), F.sub ⟨rfl, rfl, rfl, rfl, rfl, rfl, rfl, trivial⟩, kp0, hh, hlt, hps, hb48, hd, by omega, by simp, fun i hi => by omega, rfl⟩
    · clear F kp0 hh hb10 hl1 hb20 hlt hps hb48 hd
      rintro m60 ac wl59 ⟨k, d, F, kp0, hh, hlt, hps, hb48, hd, hk, hsd, hat, hm⟩
      have hsz := kp0.size
      have lt_hb48 := hb48.lt
      have lt_hd := hd.lt
      refine c_seq (fun K61 H62 => ?_)
      refine c_region ?_
      refine stp F (f_lss rfl rfl) rfl rfl rfl (fun ac F => ?_)
      refine stpEnd ?_
      refine H62 _ _ ?_
      refine c_seq (fun K63 H64 => ?_)
      by_cases hc65 : (k : Int) < ((t.length : Nat) : Int)
      · have hc := hc65
        replace F := F.setb (k := 52) (b' := true) rfl (decide_eq_true hc)
        clear hc
        refine c_true F rfl ?_
        refine wp_skip ?_
        refine H64 _ _ ?_
        refine c_seq (fun K66 H67 => ?_)
        refine wp_block ?_
        refine c_seq (fun K68 H69 => ?_)
        refine c_region ?_
        refine stp F (f_move rfl) rfl rfl rfl (fun ac F => ?_)
        refine stp F (f_indexS (r := ((adr A2).add (k * 1))) rfl rfl Try.underlying23 Try.sizeOf3 (by omega) (by omega) (hlt.some_ (by omega)).1 (by rw [show Int.toNat (k : Int) = k from by omega])) rfl rfl rfl (fun ac F => ?_)
        refine stp F (f_load1 (v := .int .i64 (t.getD k 0)) rfl Try.isAgg3 (hlt.cell1 (i := k) (by omega) rfl rfl)) rfl rfl rfl (fun ac F => ?_)
        refine stp F (f_assign rfl) rfl rfl rfl (fun ac F => ?_)
        refine stp F (f_assign rfl) rfl rfl rfl (fun ac F => ?_)
        refine stpEnd ?_
        refine H69 _ _ ?_
        refine c_seq (fun K70 H71 => ?_)
        refine c_seq (fun K72 H73 => ?_)
        obtain ⟨hm1, hm2⟩ := htok.mem (k := k) (by omega)
        refine c_region ?_
        refine stp F (f_move rfl) rfl rfl rfl (fun ac F => ?_)
        refine stp F (f_lss rfl rfl) rfl rfl rfl (fun ac F => ?_)
        refine stp F (f_move rfl) rfl rfl rfl (fun ac F => ?_)
        have hc : ¬ (t.getD k 0 < 0) := by omega
        replace F := F.setb (k := 57) (b' := false) rfl (decide_eq_false hc)
        replace F := F.setb (k := 58) (b' := false) rfl (decide_eq_false hc)
        refine stp F (f_move rfl) rfl rfl rfl (fun ac F => ?_)
        refine stp F (f_move rfl) rfl rfl rfl (fun ac F => ?_)
        refine stp F (f_len rfl Try.underlying22) rfl rfl rfl (fun ac F => ?_)
        refine stp F (f_geq rfl rfl) rfl rfl rfl (fun ac F => ?_)
        refine stp F (f_pickF rfl rfl) rfl rfl rfl (fun ac F => ?_)
        refine stp F (f_move rfl) rfl rfl rfl (fun ac F => ?_)
        have hc : ¬ (((h.length : Nat) : Int) ≤ t.getD k 0) := by omega
        replace F := F.setb (k := 62) (b' := false) rfl (decide_eq_false hc)
        replace F := F.setb (k := 63) (b' := false) rfl (decide_eq_false hc)
        replace F := F.setb (k := 64) (b' := false) rfl (decide_eq_false hc)
        refine stp F (f_move rfl) rfl rfl rfl (fun ac F => ?_)
        refine stp F (f_move rfl) rfl rfl rfl (fun ac F => ?_)
        have hle := hlt.le
        refine stp F (f_sliceTo rfl rfl Try.underlying23 Try.sizeOf3 (by omega) (by omega)) rfl rfl rfl (fun ac F => ?_)
        replace F := F.setv (k := 67) (v' := .slice A2 k c2) rfl (by rw [show (k : Int).toNat = k from by omega])
        refine stp F (f_move rfl) rfl rfl rfl (fun ac F => ?_)
        refine stpC F (f_call (P := Try.prog) (f := 10) (vs := [.slice A2 k c2, .int .i64 (t.getD k 0)]) rfl Try.call10) (contains_c _ k _ t _ _ ((hlt.take (by omega)).more (Nat.zero_le _) (by omega)) (by omega)) rfl rfl rfl ?_
        rintro _ w74 ac ⟨b1, rfl, kq75, hb1⟩ F
        have hsz := (kq75).size
        replace hh := hh.keep (kq75) (by simp)
        replace hlt := hlt.keep (kq75) (by simp)
        replace hps := hps.keep (kq75) (by simp)
        replace hb48 := hb48.keep (kq75) (by simp)
        replace hd := hd.keep (kq75) (by simp)
        replace kp0 := kp0.trans (kq75) (by simp)
        refine stp F (f_pickF rfl rfl) rfl rfl rfl (fun ac F => ?_)
        refine stpEnd ?_
        refine H73 _ _ ?_
        have hc : ¬ (b1 = true) := by exact fun hx => by obtain ⟨i, h1, h2⟩ := hb1.1 hx; exact htok.ne h1 (by omega) h2
        replace F := F.setb (k := 69) (b' := false) rfl (Bool.eq_false_iff.2 hc)
        replace F := F.setb (k := 70) (b' := false) rfl (Bool.eq_false_iff.2 hc)
        refine c_false F rfl ?_
        refine wp_skip ?_
        refine H71 _ _ ?_
        refine c_region ?_
        refine stp F (f_load1 (v := .slice (some ⟨g40, 0, none⟩) h.length h.length) rfl Try.isAgg23 ((hb48.cell 0).trans rfl)) rfl rfl rfl (fun ac F => ?_)
        refine stp F (f_move rfl) rfl rfl rfl (fun ac F => ?_)
        refine stp F (f_move rfl) rfl rfl rfl (fun ac F => ?_)
        refine stp F (f_indexS (r := ⟨g40, ((t.getD k 0).toNat) * 1, none⟩) rfl rfl Try.underlying23 Try.sizeOf3 (by omega) (by omega) rfl (add_eq (by omega))) rfl rfl rfl (fun ac F => ?_)
        refine stpW F (f_store (v := .int .i64 (k : Int)) (vs := [.int .i64 (k : Int)]) rfl rfl hd Try.sizeOf3 rfl rfl (rowI_lt (i := ((t.getD k 0).toNat)) (by (try simp only [Array.size_setIfInBounds]); omega)) (by simp [plainV])) rfl rfl ?_
        rintro w76 ac wr77 F
        have z78 := wr77.size
        have hsz := (wr77.kp).size
        replace hh := hh.keep (wr77.kp) (by intro x hx; simp at hx; omega)
        replace hlt := hlt.keep (wr77.kp) (by intro x hx; simp at hx; omega)
        replace hps := hps.keep (wr77.kp) (by intro x hx; simp at hx; omega)
        replace hb48 := hb48.keep (wr77.kp) (by have := hb48.lt; simp; omega)
        replace kp0 := kp0.trans (wr77.kp) (by intro x hx hl; simp at hx; omega)
        replace hd : Blk w76 g40 3 (rowI (d.setIfInBounds ((t.getD k 0).toNat) (k : Int)) ([])) := (by have hx_ := wr77.blk; rw [rowI_put (i := ((t.getD k 0).toNat)) (by (try simp only [Array.size_setIfInBounds]); omega)] at hx_; exact hx_)
        refine stpEnd ?_
        refine H67 _ _ ?_
        refine c_region ?_
        refine stp F (f_add (r := ((k + 1 : Nat) : Int)) rfl rfl (by rw [IntKind.wrap_i64]; omega)) rfl rfl rfl (fun ac F => ?_)
        refine stp F (f_move rfl) rfl rfl rfl (fun ac F => ?_)
        refine stpEnd ?_
        refine ⟨t.length - (k + 1), ?_, (k + 1), (d.setIfInBounds (t.getD k 0).toNat (k : Int)), F.sub ⟨rfl, rfl, rfl, rfl, rfl, rfl, rfl, trivial⟩, kp0, hh, hlt, hps, hb48, hd, by omega, by simpa using hsd, at_next htok (by omega) hsd hat, rfl⟩
        omega
      · have hc := hc65
        replace F := F.setb (k := 52) (b' := false) rfl (decide_eq_false hc)
        clear hc
        refine c_false F rfl ?_
        refine wp_exit ?_
        refine H56 _ _ ?_
        refine c_seq (fun K79 H80 => ?_)
        refine c_region ?_
        refine stp F (f_move rfl) rfl rfl rfl (fun ac F => ?_)
        refine stp F (f_len rfl Try.underlying23) rfl rfl rfl (fun ac F => ?_)
        refine stp F (f_move rfl) rfl rfl rfl (fun ac F => ?_)
        refine stp F (f_len rfl Try.underlying22) rfl rfl rfl (fun ac F => ?_)
        refine stp F (f_eql rfl rfl) rfl rfl rfl (fun ac F => ?_)
        refine stp F (f_move rfl) rfl rfl rfl (fun ac F => ?_)
        have hc : ((t.length : Nat) : Int) = ((h.length : Nat) : Int) := by omega
        replace F := F.setb (k := 80) (b' := true) rfl (decide_eq_true hc)
        replace F := F.setb (k := 81) (b' := true) rfl (decide_eq_true hc)
        refine stp F (f_move rfl) rfl rfl rfl (fun ac F => ?_)
        refine stp F (f_makeFunc (vs := []) (us := [.pointer (some ⟨g46, 0, none⟩)]) rfl rfl) rfl rfl rfl (fun ac F => ?_)
        refine stpC F (f_call (P := Try.prog) (f := 11) (vs := [.slice A3 ps.length c3, .func (.func 12) #[] #[.pointer (some ⟨g46, 0, none⟩)]]) rfl Try.call11) (containsf_c _ _ 12 ps #[.pointer (some ⟨g46, 0, none⟩)] (fun p => decide (d[p.2]! ≤ d[p.1]!)) _ (hps.more (Nat.zero_le _) (by omega)) Try.call12 (fun W p hk hp_ => law1_c _ _ _ d p W (hb48.keep hk (by simp)) (hd.keep hk (by simp)) hsd (hpR hcode p hp_).1 (hpR hcode p hp_).2.1) (by omega)) rfl rfl rfl ?_
        rintro _ w81 ac ⟨b2, rfl, kq82, hb2⟩ F
        have hsz := (kq82).size
        replace hh := hh.keep (kq82) (by simp)
        replace hlt := hlt.keep (kq82) (by simp)
        replace hps := hps.keep (kq82) (by simp)
        replace hb48 := hb48.keep (kq82) (by simp)
        replace hd := hd.keep (kq82) (by simp)
        replace kp0 := kp0.trans (kq82) (by simp)
        refine stp F (f_not rfl) rfl rfl rfl (fun ac F => ?_)
        refine stp F (f_pickT rfl rfl) rfl rfl rfl (fun ac F => ?_)
        refine stp F (f_assign rfl) rfl rfl rfl (fun ac F => ?_)
        refine stpEnd ?_
        refine H80 _ _ ?_
        refine wp_ret ?_
        refine ret1 F rfl rfl ?_
        exact ⟨by rw [show b2 = false from by cases hbb : b2 with | false => rfl | true => exact absurd (hb2.1 hbb) (fun ⟨p, hp, hq⟩ => by have h3 := hpR hcode p hp; have := tot_law htok (fun i hi => hat i (by omega)) h3.1 h3.2.1 h3.2.2; simp only [decide_eq_true_eq] at hq; omega)]; rfl, kp0⟩
  · have hc := hc37
    replace F := F.setb (k := 38) (b' := true) rfl (nf (decide_eq_false hc))
    replace F := F.setb (k := 39) (b' := true) rfl (nf (decide_eq_false hc))
    clear hc
    refine stpN F rfl rfl rfl (fun ac F => ?_)
    refine stpN F rfl rfl rfl (fun ac F => ?_)
    refine stp F (f_pickT rfl rfl) rfl rfl rfl (fun ac F => ?_)
    refine stpEnd ?_
    refine H36 _ _ ?_
    refine c_true F rfl ?_
    refine c_seq (fun K83 H84 => ?_)
    refine c_region ?_
    refine stp F (f_move rfl) rfl rfl rfl (fun ac F => ?_)
    refine stp F (f_move rfl) rfl rfl rfl (fun ac F => ?_)
    refine stp F (f_eql rfl rfl) rfl rfl rfl (fun ac F => ?_)
    refine stp F (f_assign rfl) rfl rfl rfl (fun ac F => ?_)
    refine stpEnd ?_
    refine H84 _ _ ?_
    refine wp_ret ?_
    refine ret1 F rfl rfl ?_
    exact ⟨by simp, kp0⟩

end Go.Proofs.Ytkbngaollbmcbaa.KK
