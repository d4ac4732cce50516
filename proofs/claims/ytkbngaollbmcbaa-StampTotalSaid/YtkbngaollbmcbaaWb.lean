/- What the proof leans on: rules for a walk through the code, walks of functions, and plain laws. No condition. -/
import Derived.Test.YtkbngaollbmcbaaWa
import Derived.Test.YtkbngaollbmcbaaKb
import Derived.Test.YtkbngaollbmcbaaProg

namespace Go.Proofs.Ytkbngaollbmcbaa.KK
open Go Go.RowKit Go.Sort

set_option maxHeartbeats 4000000 in
theorem sym_step (g n c a m b fc : Nat) (d : Array Int) (post : List Value) (cb : Array Value) (cf : Int → Int → Int) (ok : Int → Prop) (N : Nat) (ih : SymC Try.prog 101 g n c fc post cb cf ok N) (hS : SWO (ltC cf)) (w0 : World) (hd : Blk w0 g 3 (rowI d post)) (hE : Ent Try.prog fc) (hC : CmpC Try.prog g fc cb cf ok w0) (hok : Okk ok d) (hsn : d.size = n) (hn : n < 4611686018427387904) (hN : b - a < N + 1) (ham : a < m) (hmb : m < b) (hb : b ≤ n) (hsl : SortedIn (ltC cf) a m d) (hsr : SortedIn (ltC cf) m b d) : Calls Try.prog 101 #[.slice (some ⟨g, 0, none⟩) n c, .int .i64 (a : Int), .int .i64 (m : Int), .int .i64 (b : Int), .func (.func fc) #[] cb] w0 (Ret fun v w' => v = .tuple #[] ∧ ∃ d', PermIn a b d d' ∧ SortedIn (ltC cf) a b d' ∧ Kp [g] w0 w' ∧ Blk w' g 3 (rowI d' post)) := by
  refine enter (n := 220) Try.func101 rfl rfl rfl (fun ac F => ?_)
  have kp0 := Kp.refl [g] w0
  have lt0 := hd.lt
  refine c_seq (fun K1 H2 => ?_)
  refine c_seq (fun K3 H4 => ?_)
  refine c_region ?_
  refine stp F (f_move rfl) rfl rfl rfl (fun ac F => ?_)
  refine stp F (f_move rfl) rfl rfl rfl (fun ac F => ?_)
  refine stp F (f_sub (r := ((m - a : Nat) : Int)) rfl rfl (by rw [IntKind.wrap_i64]; omega)) rfl rfl rfl (fun ac F => ?_)
  refine stp F (f_eql rfl rfl) rfl rfl rfl (fun ac F => ?_)
  refine stpEnd ?_
  refine H4 _ _ ?_
  by_cases hc5 : ((m - a : Nat) : Int) = 1
  · have hc := hc5
    replace F := F.setb (k := 28) (b' := true) rfl (decide_eq_true hc)
    clear hc
    refine c_true F rfl ?_
    refine c_seq (fun K6 H7 => ?_)
    refine c_region ?_
    refine stp F (f_move rfl) rfl rfl rfl (fun ac F => ?_)
    refine stp F (f_assign rfl) rfl rfl rfl (fun ac F => ?_)
    refine stpEnd ?_
    refine H7 _ _ ?_
    refine c_seq (fun K8 H9 => ?_)
    refine c_region ?_
    refine stp F (f_move rfl) rfl rfl rfl (fun ac F => ?_)
    refine stp F (f_assign rfl) rfl rfl rfl (fun ac F => ?_)
    refine stpEnd ?_
    refine H9 _ _ ?_
    refine c_seq (fun K10 H11 => ?_)
    refine wp_block ?_
    refine c_loop (fun mx ax wx => ∃ (i : Nat), ∃ (j : Nat), Fr ax 220 [(0, .slice (some ⟨g, 0, none⟩) n c), (1, .int .i64 (a : Int)), (2, .int .i64 (m : Int)), (3, .int .i64 (b : Int)), (4, .func (.func fc) #[] cb), (10, .int .i64 (i : Int)), (11, .int .i64 (j : Int))] ∧ Kp [g] w0 wx ∧ Blk wx g 3 (rowI d post) ∧ (m ≤ i) ∧ (i ≤ j) ∧ (j ≤ b) ∧ (Found (fun k => ltC cf d[k]! d[a]!) m i j b) ∧ mx = j - i) (b - m) ?_ ?_
    · exact ⟨m, b, F.sub ⟨rfl, rfl, rfl, rfl, rfl, rfl, rfl, trivial⟩, kp0, hd, by omega, by omega, by omega, Found.start _ _ _, rfl⟩
    · clear F kp0 hd
      rintro m13 ac wl12 ⟨i, j, F, kp0, hd, hi, hij, hj, hf, hm⟩
      have hsz := kp0.size
      have lt_hd := hd.lt
      refine c_seq (fun K14 H15 => ?_)
      refine c_seq (fun K16 H17 => ?_)
      refine c_region ?_
      refine stp F (f_move rfl) rfl rfl rfl (fun ac F => ?_)
      refine stp F (f_move rfl) rfl rfl rfl (fun ac F => ?_)
      refine stp F (f_lss rfl rfl) rfl rfl rfl (fun ac F => ?_)
      refine stpEnd ?_
      refine H17 _ _ ?_
      by_cases hc18 : (i : Int) < (j : Int)
      · have hc := hc18
        replace F := F.setb (k := 33) (b' := true) rfl (decide_eq_true hc)
        clear hc
        refine c_true F rfl ?_
        refine wp_skip ?_
        refine H15 _ _ ?_
        refine wp_block ?_
        refine c_seq (fun K19 H20 => ?_)
        refine c_region ?_
        refine stp F (f_move rfl) rfl rfl rfl (fun ac F => ?_)
        refine stp F (f_move rfl) rfl rfl rfl (fun ac F => ?_)
        refine stp F (f_add (r := ((i + j : Nat) : Int)) rfl rfl (by rw [IntKind.wrap_i64]; omega)) rfl rfl rfl (fun ac F => ?_)
        refine stp F (f_convI (r := ((i + j : Nat) : Int)) rfl Try.underlying3 Try.underlying119 (IntWalk.u64_in _ (by omega))) rfl rfl rfl (fun ac F => ?_)
        refine stp F (f_shr (r := (((i + j) / 2 : Nat) : Int)) rfl rfl (by omega) (shr1 _)) rfl rfl rfl (fun ac F => ?_)
        refine stp F (f_convI (r := (((i + j) / 2 : Nat) : Int)) rfl Try.underlying119 Try.underlying3 (by rw [IntKind.wrap_i64]; omega)) rfl rfl rfl (fun ac F => ?_)
        refine stp F (f_assign rfl) rfl rfl rfl (fun ac F => ?_)
        refine stpEnd ?_
        refine H20 _ _ ?_
        refine c_seq (fun K21 H22 => ?_)
        refine c_draw 11 (by rfl) (by decide +kernel) (fun wx => Kp [] wl12 wx) (Kp.drew _) ?_
        refine tP F rfl (fun wq => f_move rfl) rfl rfl rfl (fun ac F => ?_)
        refine tP F rfl (fun wq => f_move rfl) rfl rfl rfl (fun ac F => ?_)
        refine tP F rfl (fun wq => f_move rfl) rfl rfl rfl (fun ac F => ?_)
        refine tP F rfl (fun wq => f_indexS (r := ⟨g, ((i + j) / 2) * 1, none⟩) rfl rfl Try.underlying23 Try.sizeOf3 (by omega) (by omega) rfl (add_eq (by omega))) rfl rfl rfl (fun ac F => ?_)
        refine tQ F rfl (fun wq hq => f_load1 (v := .int .i64 (d[((i + j) / 2)]!)) rfl Try.isAgg3 (((hd.keep hq (by simp)).cell _).trans (rowI_get (i := ((i + j) / 2)) (by (try simp only [Array.size_setIfInBounds]); omega)))) rfl rfl rfl (fun ac F => ?_)
        refine tP F rfl (fun wq => f_move rfl) rfl rfl rfl (fun ac F => ?_)
        refine tP F rfl (fun wq => f_move rfl) rfl rfl rfl (fun ac F => ?_)
        refine tP F rfl (fun wq => f_indexS (r := ⟨g, a * 1, none⟩) rfl rfl Try.underlying23 Try.sizeOf3 (by omega) (by omega) rfl (add_eq (by omega))) rfl rfl rfl (fun ac F => ?_)
        refine tQ F rfl (fun wq hq => f_load1 (v := .int .i64 (d[a]!)) rfl Try.isAgg3 (((hd.keep hq (by simp)).cell _).trans (rowI_get (i := a) (by (try simp only [Array.size_setIfInBounds]); omega)))) rfl rfl rfl (fun ac F => ?_)
        refine tC F rfl (fun wq => f_callV (vs := [.int .i64 (d[((i + j) / 2)]!), .int .i64 (d[a]!)]) rfl rfl hE) (fun wq hq => (hC _ _ _ (kp0.trans hq (by simp)) (hok (((i + j) / 2)) (by omega)) (hok (a) (by omega))).mono fun e w h => by cases e <;> first | exact ⟨h.1, hq.trans h.2 (by simp)⟩ | exact h.elim) rfl rfl rfl (fun ac F => ?_)
        refine tP F rfl (fun wq => f_lss rfl rfl) rfl rfl rfl (fun ac F => ?_)
        refine tEnd (fun w23 hq => ?_)
        have hsz := hq.size
        replace hd := hd.keep hq (by simp)
        replace kp0 := kp0.trans hq (by simp)
        refine H22 _ _ ?_
        by_cases hc24 : cf (d[((i + j) / 2)]!) (d[a]!) < 0
        · have hc := hc24
          replace F := F.setb (k := 50) (b' := true) rfl (decide_eq_true hc)
          clear hc
          refine c_true F rfl ?_
          refine c_region ?_
          refine stp F (f_move rfl) rfl rfl rfl (fun ac F => ?_)
          refine stp F (f_add (r := ((((i + j) / 2) + 1 : Nat) : Int)) rfl rfl (by rw [IntKind.wrap_i64]; omega)) rfl rfl rfl (fun ac F => ?_)
          refine stp F (f_assign rfl) rfl rfl rfl (fun ac F => ?_)
          refine stpEnd ?_
          refine ⟨j - (((i + j) / 2) + 1), ?_, (((i + j) / 2) + 1), j, F.sub ⟨rfl, rfl, rfl, rfl, rfl, rfl, rfl, trivial⟩, kp0, hd, by omega, by omega, by omega, fA_up hS hsr hf (by omega) (decide_eq_true hc24), rfl⟩
          omega
        · have hc := hc24
          replace F := F.setb (k := 50) (b' := false) rfl (decide_eq_false hc)
          clear hc
          refine c_false F rfl ?_
          refine c_region ?_
          refine stp F (f_move rfl) rfl rfl rfl (fun ac F => ?_)
          refine stp F (f_assign rfl) rfl rfl rfl (fun ac F => ?_)
          refine stpEnd ?_
          refine ⟨((i + j) / 2) - i, ?_, i, ((i + j) / 2), F.sub ⟨rfl, rfl, rfl, rfl, rfl, rfl, rfl, trivial⟩, kp0, hd, by omega, by omega, by omega, fA_down hS hsr hf (by omega) (decide_eq_false hc24), rfl⟩
          omega
      · have hc := hc18
        replace F := F.setb (k := 33) (b' := false) rfl (decide_eq_false hc)
        clear hc
        refine c_false F rfl ?_
        refine wp_exit ?_
        refine H11 _ _ ?_
        refine c_seq (fun K25 H26 => ?_)
        refine c_seq (fun K27 H28 => ?_)
        refine c_region ?_
        refine stp F (f_move rfl) rfl rfl rfl (fun ac F => ?_)
        refine stp F (f_assign rfl) rfl rfl rfl (fun ac F => ?_)
        refine stpEnd ?_
        refine H28 _ _ ?_
        refine wp_block ?_
        refine c_loop (fun mx ax wx => ∃ (k : Nat), ∃ (dk : Array Int), Fr ax 220 [(0, .slice (some ⟨g, 0, none⟩) n c), (10, .int .i64 (i : Int)), (13, .int .i64 (k : Int))] ∧ Kp [g] w0 wx ∧ Blk wx g 3 (rowI dk post) ∧ (a ≤ k) ∧ (k ≤ i - 1) ∧ (dk.size = d.size) ∧ (Shl d dk a k) ∧ (PermIn a b d dk) ∧ mx = i - 1 - k) (i - 1 - a) ?_ ?_
        · exact ⟨a, d, F.sub ⟨rfl, rfl, rfl, trivial⟩, kp0, hd, by omega, by omega, rfl, Shl.start _ _, permIn_refl _ _ _, rfl⟩
        · clear F kp0 hd
          rintro m30 ac wl29 ⟨k, dk, F, kp0, hd, hk, hki, hsk, hsh, hpm, hm⟩
          have hsz := kp0.size
          have lt_hd := hd.lt
          refine c_seq (fun K31 H32 => ?_)
          refine c_seq (fun K33 H34 => ?_)
          refine c_region ?_
          refine stp F (f_move rfl) rfl rfl rfl (fun ac F => ?_)
          refine stp F (f_move rfl) rfl rfl rfl (fun ac F => ?_)
          refine stp F (f_sub (r := ((i - 1 : Nat) : Int)) rfl rfl (by rw [IntKind.wrap_i64]; omega)) rfl rfl rfl (fun ac F => ?_)
          refine stp F (f_lss rfl rfl) rfl rfl rfl (fun ac F => ?_)
          refine stpEnd ?_
          refine H34 _ _ ?_
          by_cases hc35 : (k : Int) < ((i - 1 : Nat) : Int)
          · have hc := hc35
            replace F := F.setb (k := 58) (b' := true) rfl (decide_eq_true hc)
            clear hc
            refine c_true F rfl ?_
            refine wp_skip ?_
            refine H32 _ _ ?_
            refine c_seq (fun K36 H37 => ?_)
            refine wp_block ?_
            refine c_draw 18 (by rfl) (by decide +kernel) (fun wx => Kp [] wl29 wx) (Kp.drew _) ?_
            refine tP F rfl (fun wq => f_move rfl) rfl rfl rfl (fun ac F => ?_)
            refine tP F rfl (fun wq => f_move rfl) rfl rfl rfl (fun ac F => ?_)
            refine tP F rfl (fun wq => f_move rfl) rfl rfl rfl (fun ac F => ?_)
            refine tP F rfl (fun wq => f_move rfl) rfl rfl rfl (fun ac F => ?_)
            refine tP F rfl (fun wq => f_add (r := ((k + 1 : Nat) : Int)) rfl rfl (by rw [IntKind.wrap_i64]; omega)) rfl rfl rfl (fun ac F => ?_)
            refine tP F rfl (fun wq => f_move rfl) rfl rfl rfl (fun ac F => ?_)
            refine tP F rfl (fun wq => f_move rfl) rfl rfl rfl (fun ac F => ?_)
            refine tP F rfl (fun wq => f_add (r := ((k + 1 : Nat) : Int)) rfl rfl (by rw [IntKind.wrap_i64]; omega)) rfl rfl rfl (fun ac F => ?_)
            refine tP F rfl (fun wq => f_indexS (r := ⟨g, (k + 1) * 1, none⟩) rfl rfl Try.underlying23 Try.sizeOf3 (by omega) (by omega) rfl (add_eq (by omega))) rfl rfl rfl (fun ac F => ?_)
            refine tQ F rfl (fun wq hq => f_load1 (v := .int .i64 (dk[(k + 1)]!)) rfl Try.isAgg3 (((hd.keep hq (by simp)).cell _).trans (rowI_get (i := (k + 1)) (by (try simp only [Array.size_setIfInBounds]); omega)))) rfl rfl rfl (fun ac F => ?_)
            refine tP F rfl (fun wq => f_move rfl) rfl rfl rfl (fun ac F => ?_)
            refine tP F rfl (fun wq => f_move rfl) rfl rfl rfl (fun ac F => ?_)
            refine tP F rfl (fun wq => f_indexS (r := ⟨g, k * 1, none⟩) rfl rfl Try.underlying23 Try.sizeOf3 (by omega) (by omega) rfl (add_eq (by omega))) rfl rfl rfl (fun ac F => ?_)
            refine tQ F rfl (fun wq hq => f_load1 (v := .int .i64 (dk[k]!)) rfl Try.isAgg3 (((hd.keep hq (by simp)).cell _).trans (rowI_get (i := k) (by (try simp only [Array.size_setIfInBounds]); omega)))) rfl rfl rfl (fun ac F => ?_)
            refine tP F rfl (fun wq => f_indexS (r := ⟨g, k * 1, none⟩) rfl rfl Try.underlying23 Try.sizeOf3 (by omega) (by omega) rfl (add_eq (by omega))) rfl rfl rfl (fun ac F => ?_)
            refine tW (C' := (fun wx => Kp [g] wl29 wx ∧ Blk wx g 3 (rowI (dk.setIfInBounds k (dk[(k + 1)]!)) post))) F rfl (fun wq hq => FiresW.mono (f_store (v := .int .i64 (dk[(k + 1)]!)) (vs := [.int .i64 (dk[(k + 1)]!)]) rfl rfl (hd.keep hq (by simp)) Try.sizeOf3 rfl rfl (rowI_lt (i := k) (by (try simp only [Array.size_setIfInBounds]); omega)) (by simp [plainV])) (fun wx h2 => ⟨(hq.mono (M' := [g]) (by simp)).trans h2.kp (by intro x hx _; exact hx), (by have hx_ := h2.blk; rw [rowI_put (i := k) (by (try simp only [Array.size_setIfInBounds]); omega)] at hx_; exact hx_)⟩)) rfl rfl (fun ac F => ?_)
            refine tP F rfl (fun wq => f_indexS (r := ⟨g, (k + 1) * 1, none⟩) rfl rfl Try.underlying23 Try.sizeOf3 (by omega) (by omega) rfl (add_eq (by omega))) rfl rfl rfl (fun ac F => ?_)
            refine tW (C' := (fun wx => Kp [g] wl29 wx ∧ Blk wx g 3 (rowI ((dk.setIfInBounds k (dk[(k + 1)]!)).setIfInBounds (k + 1) (dk[k]!)) post))) F rfl (fun wq hq => FiresW.mono (f_store (v := .int .i64 (dk[k]!)) (vs := [.int .i64 (dk[k]!)]) rfl rfl hq.2 Try.sizeOf3 rfl rfl (rowI_lt (i := (k + 1)) (by (try simp only [Array.size_setIfInBounds]); omega)) (by simp [plainV])) (fun wx h2 => ⟨hq.1.trans h2.kp (by intro x hx _; exact hx), (by have hx_ := h2.blk; rw [rowI_put (i := (k + 1)) (by (try simp only [Array.size_setIfInBounds]); omega)] at hx_; exact hx_)⟩)) rfl rfl (fun ac F => ?_)
            refine tEnd (fun w42 hq => ?_)
            obtain ⟨hq, hn⟩ := hq
            have hsz := hq.size
            replace kp0 := kp0.trans hq (by intro x hx hl; simp at hx ⊢; omega)
            replace hd : Blk w42 g 3 (rowI ((dk.setIfInBounds k (dk[(k + 1)]!)).setIfInBounds (k + 1) (dk[k]!)) post) := hn
            refine H37 _ _ ?_
            refine c_region ?_
            refine stp F (f_move rfl) rfl rfl rfl (fun ac F => ?_)
            refine stp F (f_add (r := ((k + 1 : Nat) : Int)) rfl rfl (by rw [IntKind.wrap_i64]; omega)) rfl rfl rfl (fun ac F => ?_)
            refine stp F (f_assign rfl) rfl rfl rfl (fun ac F => ?_)
            refine stpEnd ?_
            refine ⟨i - 1 - (k + 1), ?_, (k + 1), (swp dk k (k + 1)), F.sub ⟨rfl, rfl, rfl, trivial⟩, kp0, hd, by omega, by omega, by rw [size_swp]; exact hsk, hsh.step (by omega) (by omega), perm_swp hpm (by omega) (by omega) (by omega) (by omega) (by omega), rfl⟩
            omega
          · have hc := hc35
            replace F := F.setb (k := 58) (b' := false) rfl (decide_eq_false hc)
            clear hc
            refine c_false F rfl ?_
            refine wp_exit ?_
            refine H26 _ _ ?_
            refine wp_ret ?_
            refine ret0 F rfl ?_
            have em : m = a + 1 := by omega
            have ei : j = i := by omega
            have ek : k = i - 1 := by omega
            rw [ek] at hsh; rw [em, ei] at hf; rw [em] at hsr
            exact ⟨rfl, dk, hpm, sorted_shl hS hsr hf (by omega) (by omega) hsh, kp0, hd⟩
  · have hc := hc5
    replace F := F.setb (k := 28) (b' := false) rfl (decide_eq_false hc)
    clear hc
    refine c_false F rfl ?_
    refine wp_skip ?_
    refine H2 _ _ ?_
    refine c_seq (fun K43 H44 => ?_)
    refine c_seq (fun K45 H46 => ?_)
    refine c_region ?_
    refine stp F (f_move rfl) rfl rfl rfl (fun ac F => ?_)
    refine stp F (f_move rfl) rfl rfl rfl (fun ac F => ?_)
    refine stp F (f_sub (r := ((b - m : Nat) : Int)) rfl rfl (by rw [IntKind.wrap_i64]; omega)) rfl rfl rfl (fun ac F => ?_)
    refine stp F (f_eql rfl rfl) rfl rfl rfl (fun ac F => ?_)
    refine stpEnd ?_
    refine H46 _ _ ?_
    by_cases hc47 : ((b - m : Nat) : Int) = 1
    · have hc := hc47
      replace F := F.setb (k := 80) (b' := true) rfl (decide_eq_true hc)
      clear hc
      refine c_true F rfl ?_
      refine c_seq (fun K48 H49 => ?_)
      refine c_region ?_
      refine stp F (f_move rfl) rfl rfl rfl (fun ac F => ?_)
      refine stp F (f_assign rfl) rfl rfl rfl (fun ac F => ?_)
      refine stpEnd ?_
      refine H49 _ _ ?_
      refine c_seq (fun K50 H51 => ?_)
      refine c_region ?_
      refine stp F (f_move rfl) rfl rfl rfl (fun ac F => ?_)
      refine stp F (f_assign rfl) rfl rfl rfl (fun ac F => ?_)
      refine stpEnd ?_
      refine H51 _ _ ?_
      refine c_seq (fun K52 H53 => ?_)
      refine wp_block ?_
      refine c_loop (fun mx ax wx => ∃ (i : Nat), ∃ (j : Nat), Fr ax 220 [(0, .slice (some ⟨g, 0, none⟩) n c), (1, .int .i64 (a : Int)), (2, .int .i64 (m : Int)), (3, .int .i64 (b : Int)), (4, .func (.func fc) #[] cb), (14, .int .i64 (i : Int)), (15, .int .i64 (j : Int))] ∧ Kp [g] w0 wx ∧ Blk wx g 3 (rowI d post) ∧ (a ≤ i) ∧ (i ≤ j) ∧ (j ≤ m) ∧ (Found (fun k => !ltC cf d[m]! d[k]!) a i j m) ∧ mx = j - i) (m - a) ?_ ?_
      · exact ⟨a, m, F.sub ⟨rfl, rfl, rfl, rfl, rfl, rfl, rfl, trivial⟩, kp0, hd, by omega, by omega, by omega, Found.start _ _ _, rfl⟩
      · clear F kp0 hd
        rintro m55 ac wl54 ⟨i, j, F, kp0, hd, hi, hij, hj, hf, hm⟩
        have hsz := kp0.size
        have lt_hd := hd.lt
        refine c_seq (fun K56 H57 => ?_)
        refine c_seq (fun K58 H59 => ?_)
        refine c_region ?_
        refine stp F (f_move rfl) rfl rfl rfl (fun ac F => ?_)
        refine stp F (f_move rfl) rfl rfl rfl (fun ac F => ?_)
        refine stp F (f_lss rfl rfl) rfl rfl rfl (fun ac F => ?_)
        refine stpEnd ?_
        refine H59 _ _ ?_
        by_cases hc60 : (i : Int) < (j : Int)
        · have hc := hc60
          replace F := F.setb (k := 85) (b' := true) rfl (decide_eq_true hc)
          clear hc
          refine c_true F rfl ?_
          refine wp_skip ?_
          refine H57 _ _ ?_
          refine wp_block ?_
          refine c_seq (fun K61 H62 => ?_)
          refine c_region ?_
          refine stp F (f_move rfl) rfl rfl rfl (fun ac F => ?_)
          refine stp F (f_move rfl) rfl rfl rfl (fun ac F => ?_)
          refine stp F (f_add (r := ((i + j : Nat) : Int)) rfl rfl (by rw [IntKind.wrap_i64]; omega)) rfl rfl rfl (fun ac F => ?_)
          refine stp F (f_convI (r := ((i + j : Nat) : Int)) rfl Try.underlying3 Try.underlying119 (IntWalk.u64_in _ (by omega))) rfl rfl rfl (fun ac F => ?_)
          refine stp F (f_shr (r := (((i + j) / 2 : Nat) : Int)) rfl rfl (by omega) (shr1 _)) rfl rfl rfl (fun ac F => ?_)
          refine stp F (f_convI (r := (((i + j) / 2 : Nat) : Int)) rfl Try.underlying119 Try.underlying3 (by rw [IntKind.wrap_i64]; omega)) rfl rfl rfl (fun ac F => ?_)
          refine stp F (f_assign rfl) rfl rfl rfl (fun ac F => ?_)
          refine stpEnd ?_
          refine H62 _ _ ?_
          refine c_seq (fun K63 H64 => ?_)
          refine c_draw 12 (by rfl) (by decide +kernel) (fun wx => Kp [] wl54 wx) (Kp.drew _) ?_
          refine tP F rfl (fun wq => f_move rfl) rfl rfl rfl (fun ac F => ?_)
          refine tP F rfl (fun wq => f_move rfl) rfl rfl rfl (fun ac F => ?_)
          refine tP F rfl (fun wq => f_move rfl) rfl rfl rfl (fun ac F => ?_)
          refine tP F rfl (fun wq => f_indexS (r := ⟨g, m * 1, none⟩) rfl rfl Try.underlying23 Try.sizeOf3 (by omega) (by omega) rfl (add_eq (by omega))) rfl rfl rfl (fun ac F => ?_)
          refine tQ F rfl (fun wq hq => f_load1 (v := .int .i64 (d[m]!)) rfl Try.isAgg3 (((hd.keep hq (by simp)).cell _).trans (rowI_get (i := m) (by (try simp only [Array.size_setIfInBounds]); omega)))) rfl rfl rfl (fun ac F => ?_)
          refine tP F rfl (fun wq => f_move rfl) rfl rfl rfl (fun ac F => ?_)
          refine tP F rfl (fun wq => f_move rfl) rfl rfl rfl (fun ac F => ?_)
          refine tP F rfl (fun wq => f_indexS (r := ⟨g, ((i + j) / 2) * 1, none⟩) rfl rfl Try.underlying23 Try.sizeOf3 (by omega) (by omega) rfl (add_eq (by omega))) rfl rfl rfl (fun ac F => ?_)
          refine tQ F rfl (fun wq hq => f_load1 (v := .int .i64 (d[((i + j) / 2)]!)) rfl Try.isAgg3 (((hd.keep hq (by simp)).cell _).trans (rowI_get (i := ((i + j) / 2)) (by (try simp only [Array.size_setIfInBounds]); omega)))) rfl rfl rfl (fun ac F => ?_)
          refine tC F rfl (fun wq => f_callV (vs := [.int .i64 (d[m]!), .int .i64 (d[((i + j) / 2)]!)]) rfl rfl hE) (fun wq hq => (hC _ _ _ (kp0.trans hq (by simp)) (hok (m) (by omega)) (hok (((i + j) / 2)) (by omega))).mono fun e w h => by cases e <;> first | exact ⟨h.1, hq.trans h.2 (by simp)⟩ | exact h.elim) rfl rfl rfl (fun ac F => ?_)
          refine tP F rfl (fun wq => f_lss rfl rfl) rfl rfl rfl (fun ac F => ?_)
          refine tP F rfl (fun wq => f_not rfl) rfl rfl rfl (fun ac F => ?_)
          refine tEnd (fun w65 hq => ?_)
          have hsz := hq.size
          replace hd := hd.keep hq (by simp)
          replace kp0 := kp0.trans hq (by simp)
          refine H64 _ _ ?_
          by_cases hc66 : cf (d[m]!) (d[((i + j) / 2)]!) < 0
          · have hc := hc66
            replace F := F.setb (k := 102) (b' := true) rfl (decide_eq_true hc)
            replace F := F.setb (k := 103) (b' := false) rfl (nt (decide_eq_true hc))
            clear hc
            refine c_false F rfl ?_
            refine c_region ?_
            refine stp F (f_move rfl) rfl rfl rfl (fun ac F => ?_)
            refine stp F (f_assign rfl) rfl rfl rfl (fun ac F => ?_)
            refine stpEnd ?_
            refine ⟨((i + j) / 2) - i, ?_, i, ((i + j) / 2), F.sub ⟨rfl, rfl, rfl, rfl, rfl, rfl, rfl, trivial⟩, kp0, hd, by omega, by omega, by omega, fB_down hS hsl hf (by omega) (decide_eq_true hc66), rfl⟩
            omega
          · have hc := hc66
            replace F := F.setb (k := 102) (b' := false) rfl (decide_eq_false hc)
            replace F := F.setb (k := 103) (b' := true) rfl (nf (decide_eq_false hc))
            clear hc
            refine c_true F rfl ?_
            refine c_region ?_
            refine stp F (f_move rfl) rfl rfl rfl (fun ac F => ?_)
            refine stp F (f_add (r := ((((i + j) / 2) + 1 : Nat) : Int)) rfl rfl (by rw [IntKind.wrap_i64]; omega)) rfl rfl rfl (fun ac F => ?_)
            refine stp F (f_assign rfl) rfl rfl rfl (fun ac F => ?_)
            refine stpEnd ?_
            refine ⟨j - (((i + j) / 2) + 1), ?_, (((i + j) / 2) + 1), j, F.sub ⟨rfl, rfl, rfl, rfl, rfl, rfl, rfl, trivial⟩, kp0, hd, by omega, by omega, by omega, fB_up hS hsl hf (by omega) (decide_eq_false hc66), rfl⟩
            omega
        · have hc := hc60
          replace F := F.setb (k := 85) (b' := false) rfl (decide_eq_false hc)
          clear hc
          refine c_false F rfl ?_
          refine wp_exit ?_
          refine H53 _ _ ?_
          refine c_seq (fun K67 H68 => ?_)
          refine c_seq (fun K69 H70 => ?_)
          refine c_region ?_
          refine stp F (f_move rfl) rfl rfl rfl (fun ac F => ?_)
          refine stp F (f_assign rfl) rfl rfl rfl (fun ac F => ?_)
          refine stpEnd ?_
          refine H70 _ _ ?_
          refine wp_block ?_
          refine c_loop (fun mx ax wx => ∃ (k : Nat), ∃ (dk : Array Int), Fr ax 220 [(0, .slice (some ⟨g, 0, none⟩) n c), (14, .int .i64 (i : Int)), (17, .int .i64 (k : Int))] ∧ Kp [g] w0 wx ∧ Blk wx g 3 (rowI dk post) ∧ (i ≤ k) ∧ (k ≤ m) ∧ (dk.size = d.size) ∧ (Shr d dk m k) ∧ (PermIn a b d dk) ∧ mx = k - i) (m - i) ?_ ?_
          · exact ⟨m, d, F.sub ⟨rfl, rfl, rfl, trivial⟩, kp0, hd, by omega, by omega, rfl, Shr.start _ _, permIn_refl _ _ _, rfl⟩
          · clear F kp0 hd
            rintro m72 ac wl71 ⟨k, dk, F, kp0, hd, hk, hki, hsk, hsh, hpm, hm⟩
            have hsz := kp0.size
            have lt_hd := hd.lt
            refine c_seq (fun K73 H74 => ?_)
            refine c_seq (fun K75 H76 => ?_)
            refine c_region ?_
            refine stp F (f_move rfl) rfl rfl rfl (fun ac F => ?_)
            refine stp F (f_move rfl) rfl rfl rfl (fun ac F => ?_)
            refine stp F (f_gtr rfl rfl) rfl rfl rfl (fun ac F => ?_)
            refine stpEnd ?_
            refine H76 _ _ ?_
            by_cases hc77 : (i : Int) < (k : Int)
            · have hc := hc77
              replace F := F.setb (k := 110) (b' := true) rfl (decide_eq_true hc)
              clear hc
              refine c_true F rfl ?_
              refine wp_skip ?_
              refine H74 _ _ ?_
              refine c_seq (fun K78 H79 => ?_)
              refine wp_block ?_
              refine c_draw 18 (by rfl) (by decide +kernel) (fun wx => Kp [] wl71 wx) (Kp.drew _) ?_
              refine tP F rfl (fun wq => f_move rfl) rfl rfl rfl (fun ac F => ?_)
              refine tP F rfl (fun wq => f_move rfl) rfl rfl rfl (fun ac F => ?_)
              refine tP F rfl (fun wq => f_move rfl) rfl rfl rfl (fun ac F => ?_)
              refine tP F rfl (fun wq => f_move rfl) rfl rfl rfl (fun ac F => ?_)
              refine tP F rfl (fun wq => f_sub (r := ((k - 1 : Nat) : Int)) rfl rfl (by rw [IntKind.wrap_i64]; omega)) rfl rfl rfl (fun ac F => ?_)
              refine tP F rfl (fun wq => f_move rfl) rfl rfl rfl (fun ac F => ?_)
              refine tP F rfl (fun wq => f_move rfl) rfl rfl rfl (fun ac F => ?_)
              refine tP F rfl (fun wq => f_sub (r := ((k - 1 : Nat) : Int)) rfl rfl (by rw [IntKind.wrap_i64]; omega)) rfl rfl rfl (fun ac F => ?_)
              refine tP F rfl (fun wq => f_indexS (r := ⟨g, (k - 1) * 1, none⟩) rfl rfl Try.underlying23 Try.sizeOf3 (by omega) (by omega) rfl (add_eq (by omega))) rfl rfl rfl (fun ac F => ?_)
              refine tQ F rfl (fun wq hq => f_load1 (v := .int .i64 (dk[(k - 1)]!)) rfl Try.isAgg3 (((hd.keep hq (by simp)).cell _).trans (rowI_get (i := (k - 1)) (by (try simp only [Array.size_setIfInBounds]); omega)))) rfl rfl rfl (fun ac F => ?_)
              refine tP F rfl (fun wq => f_move rfl) rfl rfl rfl (fun ac F => ?_)
              refine tP F rfl (fun wq => f_move rfl) rfl rfl rfl (fun ac F => ?_)
              refine tP F rfl (fun wq => f_indexS (r := ⟨g, k * 1, none⟩) rfl rfl Try.underlying23 Try.sizeOf3 (by omega) (by omega) rfl (add_eq (by omega))) rfl rfl rfl (fun ac F => ?_)
              refine tQ F rfl (fun wq hq => f_load1 (v := .int .i64 (dk[k]!)) rfl Try.isAgg3 (((hd.keep hq (by simp)).cell _).trans (rowI_get (i := k) (by (try simp only [Array.size_setIfInBounds]); omega)))) rfl rfl rfl (fun ac F => ?_)
              refine tP F rfl (fun wq => f_indexS (r := ⟨g, k * 1, none⟩) rfl rfl Try.underlying23 Try.sizeOf3 (by omega) (by omega) rfl (add_eq (by omega))) rfl rfl rfl (fun ac F => ?_)
              refine tW (C' := (fun wx => Kp [g] wl71 wx ∧ Blk wx g 3 (rowI (dk.setIfInBounds k (dk[(k - 1)]!)) post))) F rfl (fun wq hq => FiresW.mono (f_store (v := .int .i64 (dk[(k - 1)]!)) (vs := [.int .i64 (dk[(k - 1)]!)]) rfl rfl (hd.keep hq (by simp)) Try.sizeOf3 rfl rfl (rowI_lt (i := k) (by (try simp only [Array.size_setIfInBounds]); omega)) (by simp [plainV])) (fun wx h2 => ⟨(hq.mono (M' := [g]) (by simp)).trans h2.kp (by intro x hx _; exact hx), (by have hx_ := h2.blk; rw [rowI_put (i := k) (by (try simp only [Array.size_setIfInBounds]); omega)] at hx_; exact hx_)⟩)) rfl rfl (fun ac F => ?_)
              refine tP F rfl (fun wq => f_indexS (r := ⟨g, (k - 1) * 1, none⟩) rfl rfl Try.underlying23 Try.sizeOf3 (by omega) (by omega) rfl (add_eq (by omega))) rfl rfl rfl (fun ac F => ?_)
              refine tW (C' := (fun wx => Kp [g] wl71 wx ∧ Blk wx g 3 (rowI ((dk.setIfInBounds k (dk[(k - 1)]!)).setIfInBounds (k - 1) (dk[k]!)) post))) F rfl (fun wq hq => FiresW.mono (f_store (v := .int .i64 (dk[k]!)) (vs := [.int .i64 (dk[k]!)]) rfl rfl hq.2 Try.sizeOf3 rfl rfl (rowI_lt (i := (k - 1)) (by (try simp only [Array.size_setIfInBounds]); omega)) (by simp [plainV])) (fun wx h2 => ⟨hq.1.trans h2.kp (by intro x hx _; exact hx), (by have hx_ := h2.blk; rw [rowI_put (i := (k - 1)) (by (try simp only [Array.size_setIfInBounds]); omega)] at hx_; exact hx_)⟩)) rfl rfl (fun ac F => ?_)
              refine tEnd (fun w84 hq => ?_)
              obtain ⟨hq, hn⟩ := hq
              have hsz := hq.size
              replace kp0 := kp0.trans hq (by intro x hx hl; simp at hx ⊢; omega)
              replace hd : Blk w84 g 3 (rowI ((dk.setIfInBounds k (dk[(k - 1)]!)).setIfInBounds (k - 1) (dk[k]!)) post) := hn
              refine H79 _ _ ?_
              refine c_region ?_
              refine stp F (f_move rfl) rfl rfl rfl (fun ac F => ?_)
              refine stp F (f_sub (r := ((k - 1 : Nat) : Int)) rfl rfl (by rw [IntKind.wrap_i64]; omega)) rfl rfl rfl (fun ac F => ?_)
              refine stp F (f_assign rfl) rfl rfl rfl (fun ac F => ?_)
              refine stpEnd ?_
              refine ⟨(k - 1) - i, ?_, (k - 1), (swp dk k (k - 1)), F.sub ⟨rfl, rfl, rfl, trivial⟩, kp0, hd, by omega, by omega, by rw [size_swp]; exact hsk, hsh.step (by omega) (by omega) (by omega), perm_swp hpm (by omega) (by omega) (by omega) (by omega) (by omega), rfl⟩
              omega
            · have hc := hc77
              replace F := F.setb (k := 110) (b' := false) rfl (decide_eq_false hc)
              clear hc
              refine c_false F rfl ?_
              refine wp_exit ?_
              refine H68 _ _ ?_
              refine wp_ret ?_
              refine ret0 F rfl ?_
              have em : b = m + 1 := by omega
              have ei : j = i := by omega
              have ek : k = i := by omega
              rw [ek] at hsh; rw [ei] at hf
              exact ⟨rfl, dk, hpm, by rw [em]; exact sorted_shr hS hsl hf (by omega) (by omega) hsh, kp0, hd⟩
    · have hc := hc47
      replace F := F.setb (k := 80) (b' := false) rfl (decide_eq_false hc)
      clear hc
      refine c_false F rfl ?_
      refine wp_skip ?_
      refine H44 _ _ ?_
      refine c_seq (fun K85 H86 => ?_)
      refine c_region ?_
      refine stp F (f_move rfl) rfl rfl rfl (fun ac F => ?_)
      refine stp F (f_move rfl) rfl rfl rfl (fun ac F => ?_)
      refine stp F (f_add (r := ((a + b : Nat) : Int)) rfl rfl (by rw [IntKind.wrap_i64]; omega)) rfl rfl rfl (fun ac F => ?_)
      refine stp F (f_convI (r := ((a + b : Nat) : Int)) rfl Try.underlying3 Try.underlying119 (IntWalk.u64_in _ (by omega))) rfl rfl rfl (fun ac F => ?_)
      refine stp F (f_shr (r := (((a + b) / 2 : Nat) : Int)) rfl rfl (by omega) (shr1 _)) rfl rfl rfl (fun ac F => ?_)
      refine stp F (f_convI (r := (((a + b) / 2 : Nat) : Int)) rfl Try.underlying119 Try.underlying3 (by rw [IntKind.wrap_i64]; omega)) rfl rfl rfl (fun ac F => ?_)
      refine stp F (f_assign rfl) rfl rfl rfl (fun ac F => ?_)
      refine stpEnd ?_
      refine H86 _ _ ?_
      refine c_seq (fun K87 H88 => ?_)
      refine c_region ?_
      refine stp F (f_move rfl) rfl rfl rfl (fun ac F => ?_)
      refine stp F (f_move rfl) rfl rfl rfl (fun ac F => ?_)
      refine stp F (f_add (r := ((((a + b) / 2) + m : Nat) : Int)) rfl rfl (by rw [IntKind.wrap_i64]; omega)) rfl rfl rfl (fun ac F => ?_)
      refine stp F (f_assign rfl) rfl rfl rfl (fun ac F => ?_)
      refine stpEnd ?_
      refine H88 _ _ ?_
      refine c_seq (fun K89 H90 => ?_)
      refine c_region ?_
      refine stp F (f_assign rfl) rfl rfl rfl (fun ac F => ?_)
      refine stp F (f_assign rfl) rfl rfl rfl (fun ac F => ?_)
      refine stpEnd ?_
      refine H90 _ _ ?_
      refine c_seq (fun K91 H92 => ?_)
      have hJ93 : ∀ (s0 : Nat) (r0 : Nat) (ac : Act) (wj94 : World), Fr ac 220 [(0, .slice (some ⟨g, 0, none⟩) n c), (1, .int .i64 (a : Int)), (2, .int .i64 (m : Int)), (3, .int .i64 (b : Int)), (4, .func (.func fc) #[] cb), (18, .int .i64 (((a + b) / 2 : Nat) : Int)), (19, .int .i64 ((((a + b) / 2) + m : Nat) : Int)), (20, .int .i64 (s0 : Int)), (21, .int .i64 (r0 : Int))] → Kp [g] w0 wj94 → Blk wj94 g 3 (rowI d post) → ((((a + b) / 2) < m ∧ s0 = ((a + b) / 2) + m - b ∧ r0 = ((a + b) / 2)) ∨ (m ≤ ((a + b) / 2) ∧ s0 = a ∧ r0 = m)) → K91 ac wj94 := by
        clear F kp0 hd
        intro s0 r0 ac wj94 F kp0 hd hsr0
        have hsz := kp0.size
        have lt_hd := hd.lt
        refine H92 _ _ ?_
        refine c_seq (fun K95 H96 => ?_)
        refine c_region ?_
        refine stp F (f_move rfl) rfl rfl rfl (fun ac F => ?_)
        refine stp F (f_sub (r := ((((a + b) / 2) + m - 1 : Nat) : Int)) rfl rfl (by rw [IntKind.wrap_i64]; omega)) rfl rfl rfl (fun ac F => ?_)
        refine stp F (f_assign rfl) rfl rfl rfl (fun ac F => ?_)
        refine stpEnd ?_
        refine H96 _ _ ?_
        refine c_seq (fun K97 H98 => ?_)
        refine wp_block ?_
        refine c_loop (fun mx ax wx => ∃ (s : Nat), ∃ (r : Nat), Fr ax 220 [(0, .slice (some ⟨g, 0, none⟩) n c), (1, .int .i64 (a : Int)), (2, .int .i64 (m : Int)), (3, .int .i64 (b : Int)), (4, .func (.func fc) #[] cb), (18, .int .i64 (((a + b) / 2 : Nat) : Int)), (19, .int .i64 ((((a + b) / 2) + m : Nat) : Int)), (22, .int .i64 ((((a + b) / 2) + m - 1 : Nat) : Int)), (20, .int .i64 (s : Int)), (21, .int .i64 (r : Int))] ∧ Kp [g] w0 wx ∧ Blk wx g 3 (rowI d post) ∧ (s0 ≤ s) ∧ (s ≤ r) ∧ (r ≤ r0) ∧ (Found (fun k => !ltC cf d[(((a + b) / 2) + m - 1) - k]! d[k]!) s0 s r r0) ∧ mx = r - s) (r0 - s0) ?_ ?_
        · exact ⟨s0, r0, F.sub ⟨rfl, rfl, rfl, rfl, rfl, rfl, rfl, rfl, rfl, rfl, trivial⟩, kp0, hd, by omega, by omega, by omega, Found.start _ _ _, rfl⟩
        · clear F kp0 hd
          rintro m100 ac wl99 ⟨s, r, F, kp0, hd, hs0, hsr1, hr0, hf, hm⟩
          have hsz := kp0.size
          have lt_hd := hd.lt
          refine c_seq (fun K101 H102 => ?_)
          refine c_seq (fun K103 H104 => ?_)
          refine c_region ?_
          refine stp F (f_move rfl) rfl rfl rfl (fun ac F => ?_)
          refine stp F (f_move rfl) rfl rfl rfl (fun ac F => ?_)
          refine stp F (f_lss rfl rfl) rfl rfl rfl (fun ac F => ?_)
          refine stpEnd ?_
          refine H104 _ _ ?_
          by_cases hc105 : (s : Int) < (r : Int)
          · have hc := hc105
            replace F := F.setb (k := 151) (b' := true) rfl (decide_eq_true hc)
            clear hc
            refine c_true F rfl ?_
            refine wp_skip ?_
            refine H102 _ _ ?_
            refine wp_block ?_
            refine c_seq (fun K106 H107 => ?_)
            refine c_region ?_
            refine stp F (f_move rfl) rfl rfl rfl (fun ac F => ?_)
            refine stp F (f_move rfl) rfl rfl rfl (fun ac F => ?_)
            refine stp F (f_add (r := ((s + r : Nat) : Int)) rfl rfl (by rw [IntKind.wrap_i64]; omega)) rfl rfl rfl (fun ac F => ?_)
            refine stp F (f_convI (r := ((s + r : Nat) : Int)) rfl Try.underlying3 Try.underlying119 (IntWalk.u64_in _ (by omega))) rfl rfl rfl (fun ac F => ?_)
            refine stp F (f_shr (r := (((s + r) / 2 : Nat) : Int)) rfl rfl (by omega) (shr1 _)) rfl rfl rfl (fun ac F => ?_)
            refine stp F (f_convI (r := (((s + r) / 2 : Nat) : Int)) rfl Try.underlying119 Try.underlying3 (by rw [IntKind.wrap_i64]; omega)) rfl rfl rfl (fun ac F => ?_)
            refine stp F (f_assign rfl) rfl rfl rfl (fun ac F => ?_)
            refine stpEnd ?_
            refine H107 _ _ ?_
            refine c_seq (fun K108 H109 => ?_)
            refine c_draw 14 (by rfl) (by decide +kernel) (fun wx => Kp [] wl99 wx) (Kp.drew _) ?_
            refine tP F rfl (fun wq => f_move rfl) rfl rfl rfl (fun ac F => ?_)
            refine tP F rfl (fun wq => f_move rfl) rfl rfl rfl (fun ac F => ?_)
            refine tP F rfl (fun wq => f_move rfl) rfl rfl rfl (fun ac F => ?_)
            refine tP F rfl (fun wq => f_move rfl) rfl rfl rfl (fun ac F => ?_)
            refine tP F rfl (fun wq => f_sub (r := (((((a + b) / 2) + m - 1) - (s + r) / 2 : Nat) : Int)) rfl rfl (by rw [IntKind.wrap_i64]; omega)) rfl rfl rfl (fun ac F => ?_)
            refine tP F rfl (fun wq => f_indexS (r := ⟨g, ((((a + b) / 2) + m - 1) - (s + r) / 2) * 1, none⟩) rfl rfl Try.underlying23 Try.sizeOf3 (by omega) (by omega) rfl (add_eq (by omega))) rfl rfl rfl (fun ac F => ?_)
            refine tQ F rfl (fun wq hq => f_load1 (v := .int .i64 (d[((((a + b) / 2) + m - 1) - (s + r) / 2)]!)) rfl Try.isAgg3 (((hd.keep hq (by simp)).cell _).trans (rowI_get (i := ((((a + b) / 2) + m - 1) - (s + r) / 2)) (by (try simp only [Array.size_setIfInBounds]); omega)))) rfl rfl rfl (fun ac F => ?_)
            refine tP F rfl (fun wq => f_move rfl) rfl rfl rfl (fun ac F => ?_)
            refine tP F rfl (fun wq => f_move rfl) rfl rfl rfl (fun ac F => ?_)
            refine tP F rfl (fun wq => f_indexS (r := ⟨g, ((s + r) / 2) * 1, none⟩) rfl rfl Try.underlying23 Try.sizeOf3 (by omega) (by omega) rfl (add_eq (by omega))) rfl rfl rfl (fun ac F => ?_)
            refine tQ F rfl (fun wq hq => f_load1 (v := .int .i64 (d[((s + r) / 2)]!)) rfl Try.isAgg3 (((hd.keep hq (by simp)).cell _).trans (rowI_get (i := ((s + r) / 2)) (by (try simp only [Array.size_setIfInBounds]); omega)))) rfl rfl rfl (fun ac F => ?_)
            refine tC F rfl (fun wq => f_callV (vs := [.int .i64 (d[((((a + b) / 2) + m - 1) - (s + r) / 2)]!), .int .i64 (d[((s + r) / 2)]!)]) rfl rfl hE) (fun wq hq => (hC _ _ _ (kp0.trans hq (by simp)) (hok (((((a + b) / 2) + m - 1) - (s + r) / 2)) (by omega)) (hok (((s + r) / 2)) (by omega))).mono fun e w h => by cases e <;> first | exact ⟨h.1, hq.trans h.2 (by simp)⟩ | exact h.elim) rfl rfl rfl (fun ac F => ?_)
            refine tP F rfl (fun wq => f_lss rfl rfl) rfl rfl rfl (fun ac F => ?_)
            refine tP F rfl (fun wq => f_not rfl) rfl rfl rfl (fun ac F => ?_)
            refine tEnd (fun w110 hq => ?_)
            have hsz := hq.size
            replace hd := hd.keep hq (by simp)
            replace kp0 := kp0.trans hq (by simp)
            refine H109 _ _ ?_
            by_cases hc111 : cf (d[((((a + b) / 2) + m - 1) - (s + r) / 2)]!) (d[((s + r) / 2)]!) < 0
            · have hc := hc111
              replace F := F.setb (k := 170) (b' := true) rfl (decide_eq_true hc)
              replace F := F.setb (k := 171) (b' := false) rfl (nt (decide_eq_true hc))
              clear hc
              refine c_false F rfl ?_
              refine c_region ?_
              refine stp F (f_move rfl) rfl rfl rfl (fun ac F => ?_)
              refine stp F (f_assign rfl) rfl rfl rfl (fun ac F => ?_)
              refine stpEnd ?_
              refine ⟨((s + r) / 2) - s, ?_, s, ((s + r) / 2), F.sub ⟨rfl, rfl, rfl, rfl, rfl, rfl, rfl, rfl, rfl, rfl, trivial⟩, kp0, hd, by omega, by omega, by omega, fC_down hS hsl hsr hf (by omega) (by omega) (by omega) (by omega) (by omega) (decide_eq_true hc111), rfl⟩
              omega
            · have hc := hc111
              replace F := F.setb (k := 170) (b' := false) rfl (decide_eq_false hc)
              replace F := F.setb (k := 171) (b' := true) rfl (nf (decide_eq_false hc))
              clear hc
              refine c_true F rfl ?_
              refine c_region ?_
              refine stp F (f_move rfl) rfl rfl rfl (fun ac F => ?_)
              refine stp F (f_add (r := ((((s + r) / 2) + 1 : Nat) : Int)) rfl rfl (by rw [IntKind.wrap_i64]; omega)) rfl rfl rfl (fun ac F => ?_)
              refine stp F (f_assign rfl) rfl rfl rfl (fun ac F => ?_)
              refine stpEnd ?_
              refine ⟨r - (((s + r) / 2) + 1), ?_, (((s + r) / 2) + 1), r, F.sub ⟨rfl, rfl, rfl, rfl, rfl, rfl, rfl, rfl, rfl, rfl, trivial⟩, kp0, hd, by omega, by omega, by omega, fC_up hS hsl hsr hf (by omega) (by omega) (by omega) (by omega) (by omega) (decide_eq_false hc111), rfl⟩
              omega
          · have hc := hc105
            replace F := F.setb (k := 151) (b' := false) rfl (decide_eq_false hc)
            clear hc
            refine c_false F rfl ?_
            refine wp_exit ?_
            refine H98 _ _ ?_
            refine c_seq (fun K112 H113 => ?_)
            refine c_region ?_
            refine stp F (f_move rfl) rfl rfl rfl (fun ac F => ?_)
            refine stp F (f_move rfl) rfl rfl rfl (fun ac F => ?_)
            refine stp F (f_sub (r := ((((a + b) / 2) + m - s : Nat) : Int)) rfl rfl (by rw [IntKind.wrap_i64]; omega)) rfl rfl rfl (fun ac F => ?_)
            refine stp F (f_assign rfl) rfl rfl rfl (fun ac F => ?_)
            refine stpEnd ?_
            refine H113 _ _ ?_
            refine c_seq (fun K114 H115 => ?_)
            have hJ116 : ∀ (d1 : Array Int) (ac : Act) (wj117 : World), Fr ac 220 [(0, .slice (some ⟨g, 0, none⟩) n c), (1, .int .i64 (a : Int)), (2, .int .i64 (m : Int)), (3, .int .i64 (b : Int)), (4, .func (.func fc) #[] cb), (18, .int .i64 (((a + b) / 2 : Nat) : Int)), (20, .int .i64 (s : Int)), (24, .int .i64 ((((a + b) / 2) + m - s : Nat) : Int))] → Kp [g] w0 wj117 → Blk wj117 g 3 (rowI d1 post) → (Rot d d1 s m (((a + b) / 2) + m - s)) → (PermIn a b d d1) → (d1.size = n) → K114 ac wj117 := by
              clear F kp0 hd
              intro d1 ac wj117 F kp0 hd hrot hp1 hs1
              have hsz := kp0.size
              have lt_hd := hd.lt
              have hso := sorted_of_rot hS hrot (a := a) (b := b) (by omega) (by omega) (by omega) (by omega) hsl hsr
              have hhv := rot_halves hS hrot (a := a) (b := b) (by omega) (by omega) (by omega) (by omega) hsl hsr (fun h1 h2 => fC_x hS hf (by omega) (by omega) (by omega) (by omega)) (fun h1 h2 => fC_y hf (by omega) (by omega) (by omega) (by omega))
              rw [show s + ((((a + b) / 2) + m - s) - m) = ((a + b) / 2) from by omega] at hso hhv
              have hok1 := hok.perm hp1 (by omega)
              refine H115 _ _ ?_
              refine c_seq (fun K118 H119 => ?_)
              have hJ120 : ∀ (d2 : Array Int) (ac : Act) (wj121 : World), Fr ac 220 [(0, .slice (some ⟨g, 0, none⟩) n c), (1, .int .i64 (a : Int)), (2, .int .i64 (m : Int)), (3, .int .i64 (b : Int)), (4, .func (.func fc) #[] cb), (18, .int .i64 (((a + b) / 2 : Nat) : Int)), (24, .int .i64 ((((a + b) / 2) + m - s : Nat) : Int))] → Kp [g] w0 wj121 → Blk wj121 g 3 (rowI d2 post) → (PermIn a ((a + b) / 2) d1 d2) → (SortedIn (ltC cf) a ((a + b) / 2) d2) → (d2.size = n) → K118 ac wj121 := by
                clear F kp0 hd
                intro d2 ac wj121 F kp0 hd hp2 hs2 hsz2
                have hsz := kp0.size
                have lt_hd := hd.lt
                have hok2 := hok1.perm hp2 (by omega)
                have t1 : SortedIn (ltC cf) ((a + b) / 2) (((a + b) / 2) + m - s) d2 := sorted_far hp2 hso.2.2.1 (by omega)
                have t2 : SortedIn (ltC cf) (((a + b) / 2) + m - s) b d2 := sorted_far hp2 hso.2.2.2 (by omega)
                refine H119 _ _ ?_
                refine c_seq (fun K122 H123 => ?_)
                skip
                refine c_region ?_
                refine stp F (f_move rfl) rfl rfl rfl (fun ac F => ?_)
                refine stp F (f_move rfl) rfl rfl rfl (fun ac F => ?_)
                refine stp F (f_lss rfl rfl) rfl rfl rfl (fun ac F => ?_)
                refine stp F (f_move rfl) rfl rfl rfl (fun ac F => ?_)
                by_cases hc124 : (((a + b) / 2 : Nat) : Int) < ((((a + b) / 2) + m - s : Nat) : Int)
                · have hc := hc124
                  replace F := F.setb (k := 208) (b' := true) rfl (decide_eq_true hc)
                  replace F := F.setb (k := 209) (b' := true) rfl (decide_eq_true hc)
                  clear hc
                  refine stp F (f_move rfl) rfl rfl rfl (fun ac F => ?_)
                  refine stp F (f_move rfl) rfl rfl rfl (fun ac F => ?_)
                  refine stp F (f_lss rfl rfl) rfl rfl rfl (fun ac F => ?_)
                  refine stp F (f_pickT rfl rfl) rfl rfl rfl (fun ac F => ?_)
                  refine stpEnd ?_
                  refine H123 _ _ ?_
                  by_cases hc125 : ((((a + b) / 2) + m - s : Nat) : Int) < (b : Int)
                  · have hc := hc125
                    replace F := F.setb (k := 212) (b' := true) rfl (decide_eq_true hc)
                    replace F := F.setb (k := 213) (b' := true) rfl (decide_eq_true hc)
                    clear hc
                    refine c_true F rfl ?_
                    refine c_region ?_
                    refine stp F (f_move rfl) rfl rfl rfl (fun ac F => ?_)
                    refine stp F (f_move rfl) rfl rfl rfl (fun ac F => ?_)
                    refine stp F (f_move rfl) rfl rfl rfl (fun ac F => ?_)
                    refine stp F (f_move rfl) rfl rfl rfl (fun ac F => ?_)
                    refine stp F (f_move rfl) rfl rfl rfl (fun ac F => ?_)
                    refine stpC F (f_call (P := Try.prog) (f := 101) (vs := [.slice (some ⟨g, 0, none⟩) n c, .int .i64 (((a + b) / 2 : Nat) : Int), .int .i64 ((((a + b) / 2) + m - s : Nat) : Int), .int .i64 (b : Int), .func (.func fc) #[] cb]) rfl Try.call101) (ih ((a + b) / 2) (((a + b) / 2) + m - s) (b) d2 _ (by omega) hd (hC.later kp0) hok2 hsz2 (by omega) (by omega) (by omega) t1 t2) rfl rfl rfl ?_
                    rintro _ w126 ac ⟨rfl, d129, hp131, hs130, kq127, hq128⟩ F
                    have hsz := (kq127).size
                    replace kp0 := kp0.trans (kq127) (by intro x hx hl; simp at hx ⊢; omega)
                    replace hd : Blk w126 g 3 (rowI d129 post) := hq128
                    refine stpEnd ?_
                    refine end_ret ?_
                    refine ret0 F rfl ?_
                    exact ⟨rfl, d129, perm_more (perm_more hp1 hp2 (by omega) (by omega) (by omega)) hp131 (by omega) (by omega) (by omega), sorted_join (by omega) (by omega) (by omega) hhv hp2 hp131 hs2 hs130, kp0, hd⟩
                  · have hc := hc125
                    replace F := F.setb (k := 212) (b' := false) rfl (decide_eq_false hc)
                    replace F := F.setb (k := 213) (b' := false) rfl (decide_eq_false hc)
                    clear hc
                    refine c_false F rfl ?_
                    refine wp_skip ?_
                    refine end_ret ?_
                    refine ret0 F rfl ?_
                    exact ⟨rfl, d2, perm_more (perm_more hp1 hp2 (by omega) (by omega) (by omega)) (permIn_refl d2 (((a + b) / 2)) b) (by omega) (by omega) (by omega), sorted_join (by omega) (by omega) (by omega) hhv hp2 (permIn_refl d2 (((a + b) / 2)) b) hs2 (sorted_one t1 t2 (by omega)), kp0, hd⟩
                · have hc := hc124
                  replace F := F.setb (k := 208) (b' := false) rfl (decide_eq_false hc)
                  replace F := F.setb (k := 209) (b' := false) rfl (decide_eq_false hc)
                  clear hc
                  refine stpN F rfl rfl rfl (fun ac F => ?_)
                  refine stpN F rfl rfl rfl (fun ac F => ?_)
                  refine stpN F rfl rfl rfl (fun ac F => ?_)
                  refine stp F (f_pickF rfl rfl) rfl rfl rfl (fun ac F => ?_)
                  refine stpEnd ?_
                  refine H123 _ _ ?_
                  refine c_false F rfl ?_
                  refine wp_skip ?_
                  refine end_ret ?_
                  refine ret0 F rfl ?_
                  exact ⟨rfl, d2, perm_more (perm_more hp1 hp2 (by omega) (by omega) (by omega)) (permIn_refl d2 (((a + b) / 2)) b) (by omega) (by omega) (by omega), sorted_join (by omega) (by omega) (by omega) hhv hp2 (permIn_refl d2 (((a + b) / 2)) b) hs2 (sorted_one t1 t2 (by omega)), kp0, hd⟩
              refine c_seq (fun K132 H133 => ?_)
              refine c_region ?_
              refine stp F (f_move rfl) rfl rfl rfl (fun ac F => ?_)
              refine stp F (f_move rfl) rfl rfl rfl (fun ac F => ?_)
              refine stp F (f_lss rfl rfl) rfl rfl rfl (fun ac F => ?_)
              refine stp F (f_move rfl) rfl rfl rfl (fun ac F => ?_)
              by_cases hc134 : (a : Int) < (s : Int)
              · have hc := hc134
                replace F := F.setb (k := 194) (b' := true) rfl (decide_eq_true hc)
                replace F := F.setb (k := 195) (b' := true) rfl (decide_eq_true hc)
                clear hc
                refine stp F (f_move rfl) rfl rfl rfl (fun ac F => ?_)
                refine stp F (f_move rfl) rfl rfl rfl (fun ac F => ?_)
                refine stp F (f_lss rfl rfl) rfl rfl rfl (fun ac F => ?_)
                refine stp F (f_pickT rfl rfl) rfl rfl rfl (fun ac F => ?_)
                refine stpEnd ?_
                refine H133 _ _ ?_
                by_cases hc135 : (s : Int) < (((a + b) / 2 : Nat) : Int)
                · have hc := hc135
                  replace F := F.setb (k := 198) (b' := true) rfl (decide_eq_true hc)
                  replace F := F.setb (k := 199) (b' := true) rfl (decide_eq_true hc)
                  clear hc
                  refine c_true F rfl ?_
                  refine c_region ?_
                  refine stp F (f_move rfl) rfl rfl rfl (fun ac F => ?_)
                  refine stp F (f_move rfl) rfl rfl rfl (fun ac F => ?_)
                  refine stp F (f_move rfl) rfl rfl rfl (fun ac F => ?_)
                  refine stp F (f_move rfl) rfl rfl rfl (fun ac F => ?_)
                  refine stp F (f_move rfl) rfl rfl rfl (fun ac F => ?_)
                  refine stpC F (f_call (P := Try.prog) (f := 101) (vs := [.slice (some ⟨g, 0, none⟩) n c, .int .i64 (a : Int), .int .i64 (s : Int), .int .i64 (((a + b) / 2 : Nat) : Int), .func (.func fc) #[] cb]) rfl Try.call101) (ih (a) (s) ((a + b) / 2) d1 _ (by omega) hd (hC.later kp0) hok1 hs1 (by omega) (by omega) (by omega) hso.1 hso.2.1) rfl rfl rfl ?_
                  rintro _ w136 ac ⟨rfl, d139, hp141, hs140, kq137, hq138⟩ F
                  have hsz := (kq137).size
                  replace kp0 := kp0.trans (kq137) (by intro x hx hl; simp at hx ⊢; omega)
                  replace hd : Blk w136 g 3 (rowI d139 post) := hq138
                  refine stpEnd ?_
                  exact hJ120 d139 _ _ (F.sub ⟨rfl, rfl, rfl, rfl, rfl, rfl, rfl, trivial⟩) kp0 hd (hp141) (hs140) (by rw [hp141.1]; exact hs1)
                · have hc := hc135
                  replace F := F.setb (k := 198) (b' := false) rfl (decide_eq_false hc)
                  replace F := F.setb (k := 199) (b' := false) rfl (decide_eq_false hc)
                  clear hc
                  refine c_false F rfl ?_
                  refine wp_skip ?_
                  exact hJ120 d1 _ _ (F.sub ⟨rfl, rfl, rfl, rfl, rfl, rfl, rfl, trivial⟩) kp0 hd (permIn_refl _ _ _) (sorted_one hso.1 hso.2.1 (by omega)) (hs1)
              · have hc := hc134
                replace F := F.setb (k := 194) (b' := false) rfl (decide_eq_false hc)
                replace F := F.setb (k := 195) (b' := false) rfl (decide_eq_false hc)
                clear hc
                refine stpN F rfl rfl rfl (fun ac F => ?_)
                refine stpN F rfl rfl rfl (fun ac F => ?_)
                refine stpN F rfl rfl rfl (fun ac F => ?_)
                refine stp F (f_pickF rfl rfl) rfl rfl rfl (fun ac F => ?_)
                refine stpEnd ?_
                refine H133 _ _ ?_
                refine c_false F rfl ?_
                refine wp_skip ?_
                exact hJ120 d1 _ _ (F.sub ⟨rfl, rfl, rfl, rfl, rfl, rfl, rfl, trivial⟩) kp0 hd (permIn_refl _ _ _) (sorted_one hso.1 hso.2.1 (by omega)) (hs1)
            refine c_seq (fun K142 H143 => ?_)
            refine c_region ?_
            refine stp F (f_move rfl) rfl rfl rfl (fun ac F => ?_)
            refine stp F (f_move rfl) rfl rfl rfl (fun ac F => ?_)
            refine stp F (f_lss rfl rfl) rfl rfl rfl (fun ac F => ?_)
            refine stp F (f_move rfl) rfl rfl rfl (fun ac F => ?_)
            by_cases hc144 : (s : Int) < (m : Int)
            · have hc := hc144
              replace F := F.setb (k := 180) (b' := true) rfl (decide_eq_true hc)
              replace F := F.setb (k := 181) (b' := true) rfl (decide_eq_true hc)
              clear hc
              refine stp F (f_move rfl) rfl rfl rfl (fun ac F => ?_)
              refine stp F (f_move rfl) rfl rfl rfl (fun ac F => ?_)
              refine stp F (f_lss rfl rfl) rfl rfl rfl (fun ac F => ?_)
              refine stp F (f_pickT rfl rfl) rfl rfl rfl (fun ac F => ?_)
              refine stpEnd ?_
              refine H143 _ _ ?_
              by_cases hc145 : (m : Int) < ((((a + b) / 2) + m - s : Nat) : Int)
              · have hc := hc145
                replace F := F.setb (k := 184) (b' := true) rfl (decide_eq_true hc)
                replace F := F.setb (k := 185) (b' := true) rfl (decide_eq_true hc)
                clear hc
                refine c_true F rfl ?_
                refine c_region ?_
                refine stp F (f_move rfl) rfl rfl rfl (fun ac F => ?_)
                refine stp F (f_move rfl) rfl rfl rfl (fun ac F => ?_)
                refine stp F (f_move rfl) rfl rfl rfl (fun ac F => ?_)
                refine stp F (f_move rfl) rfl rfl rfl (fun ac F => ?_)
                refine stp F (f_move rfl) rfl rfl rfl (fun ac F => ?_)
                refine stpC F (f_call (P := Try.prog) (f := 124) (vs := [.slice (some ⟨g, 0, none⟩) n c, .int .i64 (s : Int), .int .i64 (m : Int), .int .i64 ((((a + b) / 2) + m - s : Nat) : Int), .func (.func fc) #[] cb]) rfl Try.call124) (rot_c g n _ (s) (m) (((a + b) / 2) + m - s) d post _ _ hd (by omega) (by omega) hsn (by omega) (by omega)) rfl rfl rfl ?_
                rintro _ w146 ac ⟨rfl, d149, hr150, hp151, kq147, hq148⟩ F
                have hsz := (kq147).size
                replace kp0 := kp0.trans (kq147) (by intro x hx hl; simp at hx ⊢; omega)
                replace hd : Blk w146 g 3 (rowI d149 post) := hq148
                refine stpEnd ?_
                exact hJ116 d149 _ _ (F.sub ⟨rfl, rfl, rfl, rfl, rfl, rfl, rfl, rfl, trivial⟩) kp0 hd (hr150) (perm_more (permIn_refl _ _ _) hp151 (by omega) (by omega) (by omega)) (by rw [hp151.1]; exact hsn)
              · have hc := hc145
                replace F := F.setb (k := 184) (b' := false) rfl (decide_eq_false hc)
                replace F := F.setb (k := 185) (b' := false) rfl (decide_eq_false hc)
                clear hc
                refine c_false F rfl ?_
                refine wp_skip ?_
                exact hJ116 d _ _ (F.sub ⟨rfl, rfl, rfl, rfl, rfl, rfl, rfl, rfl, trivial⟩) kp0 hd (Rot.triv d (by omega) (by omega) (by omega)) (permIn_refl _ _ _) (hsn)
            · have hc := hc144
              replace F := F.setb (k := 180) (b' := false) rfl (decide_eq_false hc)
              replace F := F.setb (k := 181) (b' := false) rfl (decide_eq_false hc)
              clear hc
              refine stpN F rfl rfl rfl (fun ac F => ?_)
              refine stpN F rfl rfl rfl (fun ac F => ?_)
              refine stpN F rfl rfl rfl (fun ac F => ?_)
              refine stp F (f_pickF rfl rfl) rfl rfl rfl (fun ac F => ?_)
              refine stpEnd ?_
              refine H143 _ _ ?_
              refine c_false F rfl ?_
              refine wp_skip ?_
              exact hJ116 d _ _ (F.sub ⟨rfl, rfl, rfl, rfl, rfl, rfl, rfl, rfl, trivial⟩) kp0 hd (Rot.triv d (by omega) (by omega) (by omega)) (permIn_refl _ _ _) (hsn)
      refine c_seq (fun K152 H153 => ?_)
      refine c_region ?_
      refine stp F (f_move rfl) rfl rfl rfl (fun ac F => ?_)
      refine stp F (f_move rfl) rfl rfl rfl (fun ac F => ?_)
      refine stp F (f_gtr rfl rfl) rfl rfl rfl (fun ac F => ?_)
      refine stpEnd ?_
      refine H153 _ _ ?_
      by_cases hc154 : (((a + b) / 2 : Nat) : Int) < (m : Int)
      · have hc := hc154
        replace F := F.setb (k := 140) (b' := true) rfl (decide_eq_true hc)
        clear hc
        refine c_true F rfl ?_
        refine c_seq (fun K155 H156 => ?_)
        refine c_region ?_
        refine stp F (f_move rfl) rfl rfl rfl (fun ac F => ?_)
        refine stp F (f_move rfl) rfl rfl rfl (fun ac F => ?_)
        refine stp F (f_sub (r := ((((a + b) / 2) + m - b : Nat) : Int)) rfl rfl (by rw [IntKind.wrap_i64]; omega)) rfl rfl rfl (fun ac F => ?_)
        refine stp F (f_assign rfl) rfl rfl rfl (fun ac F => ?_)
        refine stpEnd ?_
        refine H156 _ _ ?_
        refine c_region ?_
        refine stp F (f_move rfl) rfl rfl rfl (fun ac F => ?_)
        refine stp F (f_assign rfl) rfl rfl rfl (fun ac F => ?_)
        refine stpEnd ?_
        exact hJ93 (((a + b) / 2) + m - b) ((a + b) / 2) _ _ (F.sub ⟨rfl, rfl, rfl, rfl, rfl, rfl, rfl, rfl, rfl, trivial⟩) kp0 hd (.inl ⟨by omega, rfl, rfl⟩)
      · have hc := hc154
        replace F := F.setb (k := 140) (b' := false) rfl (decide_eq_false hc)
        clear hc
        refine c_false F rfl ?_
        refine c_seq (fun K157 H158 => ?_)
        refine c_region ?_
        refine stp F (f_move rfl) rfl rfl rfl (fun ac F => ?_)
        refine stp F (f_assign rfl) rfl rfl rfl (fun ac F => ?_)
        refine stpEnd ?_
        refine H158 _ _ ?_
        refine c_region ?_
        refine stp F (f_move rfl) rfl rfl rfl (fun ac F => ?_)
        refine stp F (f_assign rfl) rfl rfl rfl (fun ac F => ?_)
        refine stpEnd ?_
        exact hJ93 a m _ _ (F.sub ⟨rfl, rfl, rfl, rfl, rfl, rfl, rfl, rfl, rfl, trivial⟩) kp0 hd (.inr ⟨by omega, rfl, rfl⟩)

theorem sym_all (g n c fc : Nat) (post : List Value) (cb : Array Value) (cf : Int → Int → Int) (ok : Int → Prop) (hS : SWO (ltC cf)) (hE : Ent Try.prog fc) (hn : n < 4611686018427387904) : ∀ N, SymC Try.prog 101 g n c fc post cb cf ok N
  | 0 => fun a m b d w0 h => by omega
  | N + 1 => fun a m b d w0 h hd hC hok hsn ham hmb hb hsl hsr => sym_step g n c a m b fc d post cb cf ok N (sym_all g n c fc post cb cf ok hS hE hn N) hS w0 hd hE hC hok hsn hn h ham hmb hb hsl hsr

end Go.Proofs.Ytkbngaollbmcbaa.KK

namespace Go.Proofs.Ytkbngaollbmcbaa.KK
open Go Go.RowKit Go.Sort

set_option maxHeartbeats 4000000 in
theorem stable_c (g n c fc : Nat) (d : Array Int) (post : List Value) (cb : Array Value) (cf : Int → Int → Int) (ok : Int → Prop) (hS : SWO (ltC cf)) (w0 : World) (hd : Blk w0 g 3 (rowI d post)) (hE : Ent Try.prog fc) (hC : CmpC Try.prog g fc cb cf ok w0) (hok : Okk ok d) (hsn : d.size = n) (hn : n < 1152921504606846976) : Calls Try.prog 70 #[.slice (some ⟨g, 0, none⟩) n c, .int .i64 (n : Int), .func (.func fc) #[] cb] w0 (Ret fun v w' => v = .tuple #[] ∧ ∃ d', PermIn 0 n d d' ∧ SortedIn (ltC cf) 0 n d' ∧ Kp [g] w0 w' ∧ Blk w' g 3 (rowI d' post)) := by
  refine enter (n := 63) Try.func70 rfl rfl rfl (fun ac F => ?_)
  have kp0 := Kp.refl [g] w0
  have lt0 := hd.lt
  refine c_seq (fun K1 H2 => ?_)
  refine c_region ?_
  refine stp F (f_assign rfl) rfl rfl rfl (fun ac F => ?_)
  refine stpEnd ?_
  refine H2 _ _ ?_
  refine c_seq (fun K3 H4 => ?_)
  refine c_region ?_
  refine stp F (f_move rfl) rfl rfl rfl (fun ac F => ?_)
  refine stp F (f_assign rfl) rfl rfl rfl (fun ac F => ?_)
  refine stp F (f_assign rfl) rfl rfl rfl (fun ac F => ?_)
  refine stpEnd ?_
  refine H4 _ _ ?_
  refine c_seq (fun K5 H6 => ?_)
  refine wp_block ?_
  refine c_loop (fun mx ax wx => ∃ (a : Nat), ∃ (b : Nat), ∃ (e0 : Array Int), Fr ax 63 [(0, .slice (some ⟨g, 0, none⟩) n c), (1, .int .i64 (n : Int)), (2, .func (.func fc) #[] cb), (6, .int .i64 20), (7, .int .i64 (a : Int)), (8, .int .i64 (b : Int))] ∧ Kp [g] w0 wx ∧ Blk wx g 3 (rowI e0 post) ∧ (b = a + 20) ∧ (a ≤ n) ∧ (20 ∣ a) ∧ (Bl (ltC cf) 20 0 a e0) ∧ (PermIn 0 n d e0) ∧ (e0.size = n) ∧ mx = n - a) (n - 0) ?_ ?_
  · exact ⟨0, 20, d, F.sub ⟨rfl, rfl, rfl, rfl, rfl, rfl, trivial⟩, kp0, hd, by omega, by omega, Nat.dvd_zero _, Bl.start _ _ _, permIn_refl _ _ _, hsn, rfl⟩
  · clear F kp0 hd
    rintro m8 ac wl7 ⟨a, b, e0, F, kp0, hd, hb, han, hdv, hbl, hpm, hsz1, hm⟩
    have hsz := kp0.size
    have lt_hd := hd.lt
    refine c_seq (fun K9 H10 => ?_)
    refine c_seq (fun K11 H12 => ?_)
    refine c_region ?_
    refine stp F (f_move rfl) rfl rfl rfl (fun ac F => ?_)
    refine stp F (f_move rfl) rfl rfl rfl (fun ac F => ?_)
    refine stp F (f_leq rfl rfl) rfl rfl rfl (fun ac F => ?_)
    refine stpEnd ?_
    refine H12 _ _ ?_
    by_cases hc13 : (b : Int) ≤ (n : Int)
    · have hc := hc13
      replace F := F.setb (k := 13) (b' := true) rfl (decide_eq_true hc)
      clear hc
      refine c_true F rfl ?_
      refine wp_skip ?_
      refine H10 _ _ ?_
      refine wp_block ?_
      refine c_seq (fun K14 H15 => ?_)
      refine c_region ?_
      refine stp F (f_move rfl) rfl rfl rfl (fun ac F => ?_)
      refine stp F (f_move rfl) rfl rfl rfl (fun ac F => ?_)
      refine stp F (f_move rfl) rfl rfl rfl (fun ac F => ?_)
      refine stp F (f_move rfl) rfl rfl rfl (fun ac F => ?_)
      obtain ⟨e19, hr20, hp21, hs22⟩ := ins_law (ltC cf) hS e0 (a) (b) (by omega) (by omega)
      refine stpC F (f_call (P := Try.prog) (f := 100) (vs := [.slice (some ⟨g, 0, none⟩) n c, .int .i64 (a : Int), .int .i64 (b : Int), .func (.func fc) #[] cb]) rfl Try.call100) (ins_c g n c (a) (b) fc e0 post cb cf ok _ hd hE (hC.later kp0) (hok.perm hpm (by omega)) hsz1 (by omega) (by omega) (by omega)) rfl rfl rfl ?_
      rintro _ w16 ac ⟨rfl, kq17, hq18⟩ F
      have hsz := (kq17).size
      replace kp0 := kp0.trans (kq17) (by intro x hx hl; simp at hx ⊢; omega)
      replace hd : Blk w16 g 3 (rowI e19 post) := (hr20 ▸ hq18)
      refine stpEnd ?_
      refine H15 _ _ ?_
      refine c_seq (fun K23 H24 => ?_)
      refine c_region ?_
      refine stp F (f_move rfl) rfl rfl rfl (fun ac F => ?_)
      refine stp F (f_assign rfl) rfl rfl rfl (fun ac F => ?_)
      refine stpEnd ?_
      refine H24 _ _ ?_
      refine c_region ?_
      refine stp F (f_move rfl) rfl rfl rfl (fun ac F => ?_)
      refine stp F (f_move rfl) rfl rfl rfl (fun ac F => ?_)
      refine stp F (f_add (r := ((b + 20 : Nat) : Int)) rfl rfl (by rw [IntKind.wrap_i64]; omega)) rfl rfl rfl (fun ac F => ?_)
      refine stp F (f_assign rfl) rfl rfl rfl (fun ac F => ?_)
      refine stpEnd ?_
      refine ⟨n - b, ?_, b, (b + 20), e19, F.sub ⟨rfl, rfl, rfl, rfl, rfl, rfl, trivial⟩, kp0, hd, by omega, by omega, dvd_more hdv (by omega), (hbl.left hp21).grow (by omega) hdv (by rw [hb]; rw [← hb]; exact hs22), perm_more hpm hp21 (by omega) (by omega) (by omega), by rw [hp21.1]; exact hsz1, rfl⟩
      omega
    · have hc := hc13
      replace F := F.setb (k := 13) (b' := false) rfl (decide_eq_false hc)
      clear hc
      refine c_false F rfl ?_
      refine wp_exit ?_
      refine H6 _ _ ?_
      refine c_seq (fun K25 H26 => ?_)
      refine c_region ?_
      refine stp F (f_move rfl) rfl rfl rfl (fun ac F => ?_)
      refine stp F (f_move rfl) rfl rfl rfl (fun ac F => ?_)
      refine stp F (f_move rfl) rfl rfl rfl (fun ac F => ?_)
      refine stp F (f_move rfl) rfl rfl rfl (fun ac F => ?_)
      obtain ⟨e30, hr31, hp32, hs33⟩ := ins_law (ltC cf) hS e0 (a) (n) (by omega) (by omega)
      refine stpC F (f_call (P := Try.prog) (f := 100) (vs := [.slice (some ⟨g, 0, none⟩) n c, .int .i64 (a : Int), .int .i64 (n : Int), .func (.func fc) #[] cb]) rfl Try.call100) (ins_c g n c (a) (n) fc e0 post cb cf ok _ hd hE (hC.later kp0) (hok.perm hpm (by omega)) hsz1 (by omega) (by omega) (by omega)) rfl rfl rfl ?_
      rintro _ w27 ac ⟨rfl, kq28, hq29⟩ F
      have hsz := (kq28).size
      replace kp0 := kp0.trans (kq28) (by intro x hx hl; simp at hx ⊢; omega)
      replace hd : Blk w27 g 3 (rowI e30 post) := (hr31 ▸ hq29)
      refine stpEnd ?_
      refine H26 _ _ ?_
      refine wp_block ?_
      refine c_loop (fun mx ax wx => ∃ (q : Nat), ∃ (d2 : Array Int), Fr ax 63 [(0, .slice (some ⟨g, 0, none⟩) n c), (1, .int .i64 (n : Int)), (2, .func (.func fc) #[] cb), (6, .int .i64 (q : Int))] ∧ Kp [g] w0 wx ∧ Blk wx g 3 (rowI d2 post) ∧ (0 < q) ∧ (Bl (ltC cf) q 0 n d2) ∧ (PermIn 0 n d d2) ∧ (d2.size = n) ∧ mx = n - q) (n - 20) ?_ ?_
      · exact ⟨20, e30, F.sub ⟨rfl, rfl, rfl, rfl, trivial⟩, kp0, hd, by omega, (hbl.left hp32).grow (by omega) hdv hs33, perm_more hpm hp32 (by omega) (by omega) (by omega), by rw [hp32.1]; exact hsz1, rfl⟩
      · clear F kp0 hd
        rintro m35 ac wl34 ⟨q, d2, F, kp0, hd, hq, hbl2, hpm2, hsz2, hm⟩
        have hsz := kp0.size
        have lt_hd := hd.lt
        refine c_seq (fun K36 H37 => ?_)
        refine c_seq (fun K38 H39 => ?_)
        refine c_region ?_
        refine stp F (f_move rfl) rfl rfl rfl (fun ac F => ?_)
        refine stp F (f_move rfl) rfl rfl rfl (fun ac F => ?_)
        refine stp F (f_lss rfl rfl) rfl rfl rfl (fun ac F => ?_)
        refine stpEnd ?_
        refine H39 _ _ ?_
        by_cases hc40 : (q : Int) < (n : Int)
        · have hc := hc40
          replace F := F.setb (k := 30) (b' := true) rfl (decide_eq_true hc)
          clear hc
          refine c_true F rfl ?_
          refine wp_skip ?_
          refine H37 _ _ ?_
          refine wp_block ?_
          refine c_seq (fun K41 H42 => ?_)
          refine c_region ?_
          refine stp F (f_move rfl) rfl rfl rfl (fun ac F => ?_)
          refine stp F (f_mul (r := ((2 * q : Nat) : Int)) rfl rfl (by rw [IntKind.wrap_i64]; omega)) rfl rfl rfl (fun ac F => ?_)
          refine stp F (f_assign rfl) rfl rfl rfl (fun ac F => ?_)
          refine stp F (f_assign rfl) rfl rfl rfl (fun ac F => ?_)
          refine stpEnd ?_
          refine H42 _ _ ?_
          refine c_seq (fun K43 H44 => ?_)
          refine wp_block ?_
          refine c_loop (fun mx ax wx => ∃ (a : Nat), ∃ (b : Nat), ∃ (d3 : Array Int), Fr ax 63 [(0, .slice (some ⟨g, 0, none⟩) n c), (1, .int .i64 (n : Int)), (2, .func (.func fc) #[] cb), (6, .int .i64 (q : Int)), (7, .int .i64 (a : Int)), (8, .int .i64 (b : Int))] ∧ Kp [g] w0 wx ∧ Blk wx g 3 (rowI d3 post) ∧ (b = a + 2 * q) ∧ (a ≤ n) ∧ (2 * q ∣ a) ∧ (Bl (ltC cf) (2 * q) 0 a d3) ∧ (Bl (ltC cf) q a n d3) ∧ (PermIn 0 n d d3) ∧ (d3.size = n) ∧ mx = n - a) (n - 0) ?_ ?_
          · exact ⟨0, (2 * q), d2, F.sub ⟨rfl, rfl, rfl, rfl, rfl, rfl, trivial⟩, kp0, hd, by omega, by omega, Nat.dvd_zero _, Bl.start _ _ _, hbl2, hpm2, hsz2, rfl⟩
          · clear F kp0 hd
            rintro m46 ac wl45 ⟨a, b, d3, F, kp0, hd, hb, han, hdv, hbl, hbr, hpm, hsz1, hm⟩
            have hsz := kp0.size
            have lt_hd := hd.lt
            refine c_seq (fun K47 H48 => ?_)
            refine c_seq (fun K49 H50 => ?_)
            refine c_region ?_
            refine stp F (f_move rfl) rfl rfl rfl (fun ac F => ?_)
            refine stp F (f_move rfl) rfl rfl rfl (fun ac F => ?_)
            refine stp F (f_leq rfl rfl) rfl rfl rfl (fun ac F => ?_)
            refine stpEnd ?_
            refine H50 _ _ ?_
            by_cases hc51 : (b : Int) ≤ (n : Int)
            · have hc := hc51
              replace F := F.setb (k := 35) (b' := true) rfl (decide_eq_true hc)
              clear hc
              refine c_true F rfl ?_
              refine wp_skip ?_
              refine H48 _ _ ?_
              refine wp_block ?_
              refine c_seq (fun K52 H53 => ?_)
              refine c_region ?_
              refine stp F (f_move rfl) rfl rfl rfl (fun ac F => ?_)
              refine stp F (f_move rfl) rfl rfl rfl (fun ac F => ?_)
              refine stp F (f_move rfl) rfl rfl rfl (fun ac F => ?_)
              refine stp F (f_move rfl) rfl rfl rfl (fun ac F => ?_)
              refine stp F (f_add (r := ((a + q : Nat) : Int)) rfl rfl (by rw [IntKind.wrap_i64]; omega)) rfl rfl rfl (fun ac F => ?_)
              refine stp F (f_move rfl) rfl rfl rfl (fun ac F => ?_)
              refine stp F (f_move rfl) rfl rfl rfl (fun ac F => ?_)
              refine stpC F (f_call (P := Try.prog) (f := 101) (vs := [.slice (some ⟨g, 0, none⟩) n c, .int .i64 (a : Int), .int .i64 ((a + q : Nat) : Int), .int .i64 (b : Int), .func (.func fc) #[] cb]) rfl Try.call101) (sym_all g n c fc post cb cf ok hS hE (by omega) _ (a) (a + q) (b) d3 _ (Nat.lt_succ_self _) hd (hC.later kp0) (hok.perm hpm (by omega)) hsz1 (by omega) (by omega) (by omega) (hbr.sorted hq (dvd_half hdv) (by omega) (by omega) (by omega)) (hbr.sorted hq (dvd_mid hdv rfl) (by omega) (by omega) (by omega))) rfl rfl rfl ?_
              rintro _ w54 ac ⟨rfl, d57, hp59, hs58, kq55, hq56⟩ F
              have hsz := (kq55).size
              replace kp0 := kp0.trans (kq55) (by intro x hx hl; simp at hx ⊢; omega)
              replace hd : Blk w54 g 3 (rowI d57 post) := hq56
              refine stpEnd ?_
              refine H53 _ _ ?_
              refine c_seq (fun K60 H61 => ?_)
              refine c_region ?_
              refine stp F (f_move rfl) rfl rfl rfl (fun ac F => ?_)
              refine stp F (f_assign rfl) rfl rfl rfl (fun ac F => ?_)
              refine stpEnd ?_
              refine H61 _ _ ?_
              refine c_region ?_
              refine stp F (f_move rfl) rfl rfl rfl (fun ac F => ?_)
              refine stp F (f_move rfl) rfl rfl rfl (fun ac F => ?_)
              refine stp F (f_mul (r := ((2 * q : Nat) : Int)) rfl rfl (by rw [IntKind.wrap_i64]; omega)) rfl rfl rfl (fun ac F => ?_)
              refine stp F (f_add (r := ((b + (2 * q) : Nat) : Int)) rfl rfl (by rw [IntKind.wrap_i64]; omega)) rfl rfl rfl (fun ac F => ?_)
              refine stp F (f_assign rfl) rfl rfl rfl (fun ac F => ?_)
              refine stpEnd ?_
              refine ⟨n - b, ?_, b, (b + 2 * q), d57, F.sub ⟨rfl, rfl, rfl, rfl, rfl, rfl, trivial⟩, kp0, hd, by omega, by omega, dvd_more hdv hb, (hbl.left hp59).grow (by omega) hdv hs58, (hbr.mono (by omega)).right hp59, perm_more hpm hp59 (by omega) (by omega) (by omega), by rw [hp59.1]; exact hsz1, rfl⟩
              omega
            · have hc := hc51
              replace F := F.setb (k := 35) (b' := false) rfl (decide_eq_false hc)
              clear hc
              refine c_false F rfl ?_
              refine wp_exit ?_
              refine H44 _ _ ?_
              refine c_seq (fun K62 H63 => ?_)
              refine c_seq (fun K64 H65 => ?_)
              refine c_region ?_
              refine stp F (f_move rfl) rfl rfl rfl (fun ac F => ?_)
              refine stp F (f_move rfl) rfl rfl rfl (fun ac F => ?_)
              refine stp F (f_add (r := ((a + q : Nat) : Int)) rfl rfl (by rw [IntKind.wrap_i64]; omega)) rfl rfl rfl (fun ac F => ?_)
              refine stp F (f_assign rfl) rfl rfl rfl (fun ac F => ?_)
              refine stpEnd ?_
              refine H65 _ _ ?_
              refine c_seq (fun K66 H67 => ?_)
              refine c_region ?_
              refine stp F (f_move rfl) rfl rfl rfl (fun ac F => ?_)
              refine stp F (f_move rfl) rfl rfl rfl (fun ac F => ?_)
              refine stp F (f_lss rfl rfl) rfl rfl rfl (fun ac F => ?_)
              refine stpEnd ?_
              refine H67 _ _ ?_
              by_cases hc68 : ((a + q : Nat) : Int) < (n : Int)
              · have hc := hc68
                replace F := F.setb (k := 54) (b' := true) rfl (decide_eq_true hc)
                clear hc
                refine c_true F rfl ?_
                refine c_region ?_
                refine stp F (f_move rfl) rfl rfl rfl (fun ac F => ?_)
                refine stp F (f_move rfl) rfl rfl rfl (fun ac F => ?_)
                refine stp F (f_move rfl) rfl rfl rfl (fun ac F => ?_)
                refine stp F (f_move rfl) rfl rfl rfl (fun ac F => ?_)
                refine stp F (f_move rfl) rfl rfl rfl (fun ac F => ?_)
                refine stpC F (f_call (P := Try.prog) (f := 101) (vs := [.slice (some ⟨g, 0, none⟩) n c, .int .i64 (a : Int), .int .i64 ((a + q : Nat) : Int), .int .i64 (n : Int), .func (.func fc) #[] cb]) rfl Try.call101) (sym_all g n c fc post cb cf ok hS hE (by omega) _ (a) (a + q) (n) d3 _ (Nat.lt_succ_self _) hd (hC.later kp0) (hok.perm hpm (by omega)) hsz1 (by omega) (by omega) (by omega) (hbr.sorted hq (dvd_half hdv) (by omega) (by omega) (by omega)) (hbr.sorted hq (dvd_mid hdv rfl) (by omega) (by omega) (by omega))) rfl rfl rfl ?_
                rintro _ w69 ac ⟨rfl, d72, hp74, hs73, kq70, hq71⟩ F
                have hsz := (kq70).size
                replace kp0 := kp0.trans (kq70) (by intro x hx hl; simp at hx ⊢; omega)
                replace hd : Blk w69 g 3 (rowI d72 post) := hq71
                refine stpEnd ?_
                refine H63 _ _ ?_
                refine c_region ?_
                refine stp F (f_move rfl) rfl rfl rfl (fun ac F => ?_)
                refine stp F (f_mul (r := ((2 * q : Nat) : Int)) rfl rfl (by rw [IntKind.wrap_i64]; omega)) rfl rfl rfl (fun ac F => ?_)
                refine stp F (f_assign rfl) rfl rfl rfl (fun ac F => ?_)
                refine stpEnd ?_
                refine ⟨n - (2 * q), ?_, (2 * q), d72, F.sub ⟨rfl, rfl, rfl, rfl, trivial⟩, kp0, hd, by omega, (hbl.left hp74).grow (by omega) hdv hs73, perm_more hpm hp74 (by omega) (by omega) (by omega), by rw [hp74.1]; exact hsz1, rfl⟩
                omega
              · have hc := hc68
                replace F := F.setb (k := 54) (b' := false) rfl (decide_eq_false hc)
                clear hc
                refine c_false F rfl ?_
                refine wp_skip ?_
                refine H63 _ _ ?_
                refine c_region ?_
                refine stp F (f_move rfl) rfl rfl rfl (fun ac F => ?_)
                refine stp F (f_mul (r := ((2 * q : Nat) : Int)) rfl rfl (by rw [IntKind.wrap_i64]; omega)) rfl rfl rfl (fun ac F => ?_)
                refine stp F (f_assign rfl) rfl rfl rfl (fun ac F => ?_)
                refine stpEnd ?_
                refine ⟨n - (2 * q), ?_, (2 * q), d3, F.sub ⟨rfl, rfl, rfl, rfl, trivial⟩, kp0, hd, by omega, hbl.grow (by omega) hdv (hbr.sorted hq (dvd_half hdv) (by omega) (by omega) (by omega)), hpm, hsz1, rfl⟩
                omega
        · have hc := hc40
          replace F := F.setb (k := 30) (b' := false) rfl (decide_eq_false hc)
          clear hc
          refine c_false F rfl ?_
          refine wp_exit ?_
          refine end_ret ?_
          refine ret0 F rfl ?_
          exact ⟨rfl, d2, hpm2, hbl2.sorted hq (Nat.dvd_zero _) (by omega) (by omega) (by omega), kp0, hd⟩

set_option maxHeartbeats 4000000 in
theorem sortstable_c (g n c fc : Nat) (d : Array Int) (post : List Value) (cb : Array Value) (cf : Int → Int → Int) (ok : Int → Prop) (hS : SWO (ltC cf)) (w0 : World) (hd : Blk w0 g 3 (rowI d post)) (hE : Ent Try.prog fc) (hC : CmpC Try.prog g fc cb cf ok w0) (hok : Okk ok d) (hsn : d.size = n) (hn : n < 1152921504606846976) : Calls Try.prog 40 #[.slice (some ⟨g, 0, none⟩) n c, .func (.func fc) #[] cb] w0 (Ret fun v w' => v = .tuple #[] ∧ ∃ d', PermIn 0 n d d' ∧ SortedIn (ltC cf) 0 n d' ∧ Kp [g] w0 w' ∧ Blk w' g 3 (rowI d' post)) := by
  refine enter (n := 9) Try.func40 rfl rfl rfl (fun ac F => ?_)
  have kp0 := Kp.refl [g] w0
  have lt0 := hd.lt
  refine c_region ?_
  refine stp F (f_move rfl) rfl rfl rfl (fun ac F => ?_)
  refine stp F (f_move rfl) rfl rfl rfl (fun ac F => ?_)
  refine stp F (f_len rfl Try.underlying23) rfl rfl rfl (fun ac F => ?_)
  refine stp F (f_move rfl) rfl rfl rfl (fun ac F => ?_)
  refine stpC F (f_call (P := Try.prog) (f := 70) (vs := [.slice (some ⟨g, 0, none⟩) n c, .int .i64 (n : Int), .func (.func fc) #[] cb]) rfl Try.call70) (stable_c g n c fc d post cb cf ok hS _ hd hE hC hok hsn hn) rfl rfl rfl ?_
  rintro _ w1 ac ⟨rfl, d4, hp6, hs5, kq2, hq3⟩ F
  have hsz := (kq2).size
  replace kp0 := kp0.trans (kq2) (by intro x hx hl; simp at hx ⊢; omega)
  replace hd : Blk w1 g 3 (rowI d4 post) := hq3
  refine stpEnd ?_
  refine end_ret ?_
  refine ret0 F rfl ?_
  exact ⟨rfl, d4, hp6, hs5, kp0, hd⟩

end Go.Proofs.Ytkbngaollbmcbaa.KK

namespace Go.Proofs.Ytkbngaollbmcbaa.KK
open Go Go.RowKit Go.Sort

set_option maxHeartbeats 4000000 in
theorem total1_c (x y : Int) (gl gh cl c n : Nat) (Al A : Option Addr) (h : List Ev) (w0 : World) (hbl : Blk w0 gl 23 ([.slice Al n cl])) (hbh : Blk w0 gh 22 ([.slice A h.length c])) (hl : Sl w0 0 w0.heap.size 1 Al n cl (ivv (stF h))) (hh : Sl w0 0 w0.heap.size 3 A h.length c (evv h)) (hln : n = h.length) (hx : okT h.length x) (hy : okT h.length y) : Calls Try.prog 41 #[.int .i64 x, .int .i64 y, .pointer (some ⟨gl, 0, none⟩), .pointer (some ⟨gh, 0, none⟩)] w0 (Ret fun v w' => v = .int .i64 (cfT h x y) ∧ Kp [] w0 w') := by
  refine enter (n := 29) Try.func41 rfl rfl rfl (fun ac F => ?_)
  have kp0 := Kp.refl ([] : List Nat) w0
  obtain ⟨hx1, hx2⟩ := hx
  obtain ⟨hy1, hy2⟩ := hy
  refine c_seq (fun K1 H2 => ?_)
  refine c_region ?_
  refine stp F (f_assign rfl) rfl rfl rfl (fun ac F => ?_)
  refine stpEnd ?_
  refine H2 _ _ ?_
  refine c_seq (fun K3 H4 => ?_)
  refine c_draw 20 (by rfl) (by decide +kernel) (fun wx => Kp [] w0 wx) (Kp.drew _) ?_
  refine tQ F rfl (fun wq hq => f_load1 (v := .slice Al n cl) rfl Try.isAgg23 (((hbl.keep hq (by simp)).cell 0).trans rfl)) rfl rfl rfl (fun ac F => ?_)
  refine tP F rfl (fun wq => f_move rfl) rfl rfl rfl (fun ac F => ?_)
  refine tP F rfl (fun wq => f_indexS (r := ((adr Al).add (x.toNat * 1))) rfl rfl Try.underlying23 Try.sizeOf3 (by omega) (by omega) (hl.some_ (by omega)).1 rfl) rfl rfl rfl (fun ac F => ?_)
  refine tQ F rfl (fun wq hq => f_load1 (v := .int .i64 ((stF h).getD x.toNat 0)) rfl Try.isAgg3 ((hl.keep hq (by simp)).cell1 (i := x.toNat) (by omega) rfl rfl)) rfl rfl rfl (fun ac F => ?_)
  refine tQ F rfl (fun wq hq => f_load1 (v := .slice Al n cl) rfl Try.isAgg23 (((hbl.keep hq (by simp)).cell 0).trans rfl)) rfl rfl rfl (fun ac F => ?_)
  refine tP F rfl (fun wq => f_move rfl) rfl rfl rfl (fun ac F => ?_)
  refine tP F rfl (fun wq => f_indexS (r := ((adr Al).add (y.toNat * 1))) rfl rfl Try.underlying23 Try.sizeOf3 (by omega) (by omega) (hl.some_ (by omega)).1 rfl) rfl rfl rfl (fun ac F => ?_)
  refine tQ F rfl (fun wq hq => f_load1 (v := .int .i64 ((stF h).getD y.toNat 0)) rfl Try.isAgg3 ((hl.keep hq (by simp)).cell1 (i := y.toNat) (by omega) rfl rfl)) rfl rfl rfl (fun ac F => ?_)
  refine tC F rfl (fun wq => f_call (P := Try.prog) (f := 43) (vs := [.int .i64 ((stF h).getD x.toNat 0), .int .i64 ((stF h).getD y.toNat 0)]) rfl Try.call43) (fun wq hq => (cmp_c _ _ _).mono fun e w h => by cases e <;> first | (obtain ⟨rfl, rfl⟩ := h; exact ⟨rfl, hq⟩) | exact h.elim) rfl rfl rfl (fun ac F => ?_)
  refine tQ F rfl (fun wq hq => f_load1 (v := .slice A h.length c) rfl Try.isAgg22 (((hbh.keep hq (by simp)).cell 0).trans rfl)) rfl rfl rfl (fun ac F => ?_)
  refine tP F rfl (fun wq => f_move rfl) rfl rfl rfl (fun ac F => ?_)
  refine tP F rfl (fun wq => f_indexS (r := ((adr A).add (x.toNat * 3))) rfl rfl Try.underlying22 Try.sizeOf28 (by omega) (by omega) (hh.some_ (by omega)).1 rfl) rfl rfl rfl (fun ac F => ?_)
  refine tP F rfl (fun wq => f_fieldAddr (r := (((adr A).add (x.toNat * 3)).add 0)) (sz := 0) rfl Try.underlying28 rfl Try.sizeOf3 rfl) rfl rfl rfl (fun ac F => ?_)
  refine tQ F rfl (fun wq hq => f_load1 (v := .int .i64 ((h.getD x.toNat default).proc)) rfl Try.isAgg3 (((hh.keep hq (by simp)).at_ x.toNat (by omega)).2 0 _ rfl)) rfl rfl rfl (fun ac F => ?_)
  refine tQ F rfl (fun wq hq => f_load1 (v := .slice A h.length c) rfl Try.isAgg22 (((hbh.keep hq (by simp)).cell 0).trans rfl)) rfl rfl rfl (fun ac F => ?_)
  refine tP F rfl (fun wq => f_move rfl) rfl rfl rfl (fun ac F => ?_)
  refine tP F rfl (fun wq => f_indexS (r := ((adr A).add (y.toNat * 3))) rfl rfl Try.underlying22 Try.sizeOf28 (by omega) (by omega) (hh.some_ (by omega)).1 rfl) rfl rfl rfl (fun ac F => ?_)
  refine tP F rfl (fun wq => f_fieldAddr (r := (((adr A).add (y.toNat * 3)).add 0)) (sz := 0) rfl Try.underlying28 rfl Try.sizeOf3 rfl) rfl rfl rfl (fun ac F => ?_)
  refine tQ F rfl (fun wq hq => f_load1 (v := .int .i64 ((h.getD y.toNat default).proc)) rfl Try.isAgg3 (((hh.keep hq (by simp)).at_ y.toNat (by omega)).2 0 _ rfl)) rfl rfl rfl (fun ac F => ?_)
  refine tC F rfl (fun wq => f_call (P := Try.prog) (f := 43) (vs := [.int .i64 ((h.getD x.toNat default).proc), .int .i64 ((h.getD y.toNat default).proc)]) rfl Try.call43) (fun wq hq => (cmp_c _ _ _).mono fun e w h => by cases e <;> first | (obtain ⟨rfl, rfl⟩ := h; exact ⟨rfl, hq⟩) | exact h.elim) rfl rfl rfl (fun ac F => ?_)
  refine tTail (fun w5 hq => ?_)
  have hsz := hq.size
  replace hbl := hbl.keep hq (by simp)
  replace hbh := hbh.keep hq (by simp)
  replace hl := hl.keep hq (by simp)
  replace hh := hh.keep hq (by simp)
  replace kp0 := kp0.trans hq (by simp)
  refine stpE F (f_buildSlice (el := 3) (vs := [(0, .int .i64 (cmpI ((stF h).getD x.toNat 0) ((stF h).getD y.toNat 0))), (1, .int .i64 (cmpI ((h.getD x.toNat default).proc) ((h.getD y.toNat default).proc)))]) (cs := [.int .i64 (cmpI ((stF h).getD x.toNat 0) ((stF h).getD y.toNat 0)), .int .i64 (cmpI ((h.getD x.toNat default).proc) ((h.getD y.toNat default).proc))]) rfl (fun w => by kernel_rfl)) rfl rfl rfl ?_
  rintro _ w7 ac ⟨g6, rfl, nb8⟩ F
  have n10 := nb8.num
  have z11 := nb8.size
  have hsz := (nb8.kp).size
  replace hbl := hbl.keep (nb8.kp) (by simp)
  replace hbh := hbh.keep (nb8.kp) (by simp)
  replace hl := hl.keep (nb8.kp) (by simp)
  replace hh := hh.keep (nb8.kp) (by simp)
  replace kp0 := kp0.trans (nb8.kp) (by simp)
  have hb9 : Blk w7 g6 3 ([.int .i64 (cmpI ((stF h).getD x.toNat 0) ((stF h).getD y.toNat 0)), .int .i64 (cmpI ((h.getD x.toNat default).proc) ((h.getD y.toNat default).proc))]) := nb8.blk
  refine stpC F (f_call (P := Try.prog) (f := 42) (vs := [.slice (some ⟨g6, 0, none⟩) 2 2]) rfl Try.call42) (or_c _ _ [cmpI ((stF h).getD x.toNat 0) ((stF h).getD y.toNat 0), cmpI ((h.getD x.toNat default).proc) ((h.getD y.toNat default).proc)] _ (Blk.sl (post := []) hb9 (Nat.le_refl _)) (by simp)) rfl rfl rfl ?_
  rintro _ w12 ac ⟨rfl, kq13⟩ F
  have hsz := (kq13).size
  replace hbl := hbl.keep (kq13) (by simp)
  replace hbh := hbh.keep (kq13) (by simp)
  replace hl := hl.keep (kq13) (by simp)
  replace hh := hh.keep (kq13) (by simp)
  replace hb9 := hb9.keep (kq13) (by simp)
  replace kp0 := kp0.trans (kq13) (by simp)
  refine stp F (f_assign rfl) rfl rfl rfl (fun ac F => ?_)
  refine stpEnd ?_
  refine H4 _ _ ?_
  refine wp_ret ?_
  refine ret1 F rfl rfl ?_
  exact ⟨rfl, kp0⟩

set_option maxHeartbeats 4000000 in
theorem total_some (A : Option Addr) (c : Nat) (h : List Ev) (w0 : World) (hh : Sl w0 0 w0.heap.size 3 A h.length c (evv h)) (hne : 0 < h.length) : Calls Try.prog 7 #[.slice A h.length c] w0 (Ret fun v w' => ∃ A' c' t, v = .tuple #[.slice A' t.length c', .int .i64 (checkF h)] ∧ Kp [] w0 w' ∧ Sl w' 0 w'.heap.size 1 A' t.length c' (ivv t) ∧ (checkF h = 0 → TotOK h t)) := by
  refine enter (n := 30) Try.func7 rfl rfl rfl (fun ac F => ?_)
  have kp0 := Kp.refl ([] : List Nat) w0
  refine c_seq (fun K1 H2 => ?_)
  refine c_region ?_
  refine stpE F (f_box (cs := [.slice A h.length c]) rfl rfl) rfl rfl rfl ?_
  rintro _ w4 ac ⟨g3, rfl, nb6⟩ F
  have n7 := nb6.num
  have z8 := nb6.size
  have hsz := (nb6.kp).size
  replace hh := hh.keep (nb6.kp) (by simp)
  replace kp0 := kp0.trans (nb6.kp) (by simp)
  have hb5 : Blk w4 g3 22 ([.slice A h.length c]) := nb6.blk
  refine stp F (f_assign rfl) rfl rfl rfl (fun ac F => ?_)
  refine stp F (f_assign rfl) rfl rfl rfl (fun ac F => ?_)
  refine stpEnd ?_
  refine H2 _ _ ?_
  refine c_seq (fun K9 H10 => ?_)
  skip
  refine c_region ?_
  refine stp F (f_load1 (v := .slice A h.length c) rfl Try.isAgg22 ((hb5.cell 0).trans rfl)) rfl rfl rfl (fun ac F => ?_)
  refine stpC F (f_call (P := Try.prog) (f := 13) (vs := [.slice A h.length c]) rfl Try.call13) (stamps_c _ _ _ _ (hh.more (Nat.zero_le _) (by omega))) rfl rfl rfl ?_
  rintro _ w11 ac ⟨A14, c15, rfl, kq12, hl13⟩ F
  have hsz := (kq12).size
  replace hh := hh.keep (kq12) (by simp)
  replace hb5 := hb5.keep (kq12) (by simp)
  replace kp0 := kp0.trans (kq12) (by simp)
  have hl := (hl13.sl (f := ivv (stF h)) (by intro i v hi; simp at hi; obtain ⟨a, ha, rfl⟩ := hi; simp [ivv, ha]))
  have hob0 := hl13.base_le
  have hlo : w4.heap.size ≤ w11.heap.size := kq12.size
  refine stp F (f_move rfl) rfl rfl rfl (fun ac F => ?_)
  refine stp F (f_extract (vs := [.slice A14 (((stF h).map vi).length) c15, .int .i64 (checkF h)]) rfl rfl) rfl rfl rfl (fun ac F => ?_)
  refine stp F (f_extract (vs := [.slice A14 (((stF h).map vi).length) c15, .int .i64 (checkF h)]) rfl rfl) rfl rfl rfl (fun ac F => ?_)
  refine stpE F (f_alloc (cs := [.slice none 0 0]) Try.zeroValue23 rfl) rfl rfl rfl ?_
  rintro _ w18 ac ⟨g17, rfl, nb20⟩ F
  have n21 := nb20.num
  have z22 := nb20.size
  have hsz := (nb20.kp).size
  replace hh := hh.keep (nb20.kp) (by simp)
  replace hb5 := hb5.keep (nb20.kp) (by simp)
  replace hl := hl.keep (nb20.kp) (by simp)
  replace kp0 := kp0.trans (nb20.kp) (by simp)
  have hb19 : Blk w18 g17 23 ([.slice none 0 0]) := nb20.blk
  refine stpW F (f_store (v := .slice A14 (((stF h).map vi).length) c15) (vs := [.slice A14 (((stF h).map vi).length) c15]) rfl rfl hb19 Try.sizeOf23 rfl rfl (by simp) (by simp [plainV])) rfl rfl ?_
  rintro w23 ac wr24 F
  have z25 := wr24.size
  have hsz := (wr24.kp).size
  replace hh := hh.keep (wr24.kp) (by intro x hx; simp at hx; omega)
  replace hb5 := hb5.keep (wr24.kp) (by have := hb5.lt; simp; omega)
  replace hl := hl.keep (wr24.kp) (by intro x hx; simp at hx; omega)
  replace kp0 := kp0.trans (wr24.kp) (by intro x hx hl; simp at hx; omega)
  replace hb19 : Blk w23 g17 23 ([.slice A14 (((stF h).map vi).length) c15]) := wr24.blk
  refine stp F (f_assign rfl) rfl rfl rfl (fun ac F => ?_)
  refine stpEnd ?_
  refine H10 _ _ ?_
  refine c_seq (fun K26 H27 => ?_)
  refine c_seq (fun K28 H29 => ?_)
  refine c_region ?_
  refine stp F (f_move rfl) rfl rfl rfl (fun ac F => ?_)
  refine stp F (f_neq rfl rfl) rfl rfl rfl (fun ac F => ?_)
  refine stpEnd ?_
  refine H29 _ _ ?_
  by_cases hc30 : checkF h = 0
  · have hc := hc30
    replace F := F.setb (k := 14) (b' := false) rfl (nt (decide_eq_true hc))
    clear hc
    refine c_false F rfl ?_
    refine wp_skip ?_
    refine H27 _ _ ?_
    refine c_seq (fun K31 H32 => ?_)
    have hcode : checkF h = 0 := hc30
    have h60 := (checkF_ok hcode).1
    refine c_region ?_
    refine stp F (f_assign rfl) rfl rfl rfl (fun ac F => ?_)
    refine stpEnd ?_
    refine H32 _ _ ?_
    refine c_seq (fun K33 H34 => ?_)
    refine c_seq (fun K35 H36 => ?_)
    have hbase0 : w0.heap.size ≤ w23.heap.size := kp0.size
    refine c_region ?_
    refine stp F (f_load1 (v := .slice A h.length c) rfl Try.isAgg22 ((hb5.cell 0).trans rfl)) rfl rfl rfl (fun ac F => ?_)
    refine stp F (f_len rfl Try.underlying22) rfl rfl rfl (fun ac F => ?_)
    refine stp F (f_move rfl) rfl rfl rfl (fun ac F => ?_)
    refine stpEnd ?_
    refine H36 _ _ ?_
    refine wp_block ?_
    refine c_loop (fun mx ax wx => ∃ (k : Nat), ∃ (vs : List Value), ∃ (A5 : Option Addr), ∃ (c5 : Nat), Fr ax 30 [(1, .pointer (some ⟨g3, 0, none⟩)), (4, .pointer (some ⟨g17, 0, none⟩)), (5, .int .i64 (checkF h)), (6, .slice A5 vs.length c5), (17, .int .i64 ((h.length : Nat) : Int)), (18, .int .i64 (k : Int))] ∧ Kp [] w0 wx ∧ Sl wx 0 w0.heap.size 3 A h.length c (evv h) ∧ Blk wx g3 22 ([.slice A h.length c]) ∧ Sl wx w4.heap.size w11.heap.size 1 A14 (((stF h).map vi).length) c15 (ivv (stF h)) ∧ Blk wx g17 23 ([.slice A14 (((stF h).map vi).length) c15]) ∧ Own wx w23.heap.size 3 1 A5 c5 vs ∧ (k ≤ h.length) ∧ (vs = (rng k).map vi) ∧ mx = h.length - k) (h.length - 0) ?_ ?_
    · exact ⟨0, [], none, 0, F.sub ⟨rfl, rfl, rfl, rfl, rfl, rfl, trivial⟩, kp0, hh, hb5, hl, hb19, (Own.nil _ _ _ _), by omega, rfl, rfl⟩
    · clear F kp0 hh hb5 hl hb19
      rintro m38 ac wl37 ⟨k, vs, A5, c5, F, kp0, hh, hb5, hl, hb19, ho, hk, hvs, hm⟩
      have hsz := kp0.size
      have lt_hb5 := hb5.lt
      have lt_hb19 := hb19.lt
      have hvl : vs.length = k := by rw [hvs]; simp [rng_len]
      have hob0 := ho.base_le
      refine c_seq (fun K39 H40 => ?_)
      refine c_region ?_
      refine stp F (f_lss rfl rfl) rfl rfl rfl (fun ac F => ?_)
      refine stpEnd ?_
      refine H40 _ _ ?_
      refine c_seq (fun K41 H42 => ?_)
      by_cases hc43 : (k : Int) < ((h.length : Nat) : Int)
      · have hc := hc43
        replace F := F.setb (k := 19) (b' := true) rfl (decide_eq_true hc)
        clear hc
        refine c_true F rfl ?_
        refine wp_skip ?_
        refine H42 _ _ ?_
        refine c_seq (fun K44 H45 => ?_)
        refine wp_block ?_
        refine c_seq (fun K46 H47 => ?_)
        refine c_region ?_
        refine stp F (f_move rfl) rfl rfl rfl (fun ac F => ?_)
        refine stp F (f_assign rfl) rfl rfl rfl (fun ac F => ?_)
        refine stpEnd ?_
        refine H47 _ _ ?_
        refine c_region ?_
        refine stp F (f_move rfl) rfl rfl rfl (fun ac F => ?_)
        refine stp F (f_move rfl) rfl rfl rfl (fun ac F => ?_)
        refine stpE F (f_buildSlice (el := 3) (vs := [(0, .int .i64 (k : Int))]) (cs := [.int .i64 (k : Int)]) rfl (fun w => by kernel_rfl)) rfl rfl rfl ?_
        rintro _ w49 ac ⟨g48, rfl, nb50⟩ F
        have n52 := nb50.num
        have z53 := nb50.size
        have hsz := (nb50.kp).size
        replace hh := hh.keep (nb50.kp) (by simp)
        replace hb5 := hb5.keep (nb50.kp) (by simp)
        replace hl := hl.keep (nb50.kp) (by simp)
        replace hb19 := hb19.keep (nb50.kp) (by simp)
        replace ho := ho.keep (nb50.kp) (by simp)
        replace kp0 := kp0.trans (nb50.kp) (by simp)
        have hb51 : Blk w49 g48 3 ([.int .i64 (k : Int)]) := nb50.blk
        have hob := ho.base_le
        refine stpE F (f_append1 (v := .int .i64 (k : Int)) (vs := vs) (bytes := 8) rfl rfl Try.underlying23 (i := Try.t3) (by kernel_rfl) rfl rfl rfl rfl (by decide) ho hb51 rfl (by simp [Value.cells, Value.oneCell']) (by omega) (by omega) (by omega)) rfl rfl rfl ?_
        rintro _ w56 ac ⟨A54, c55, rfl, hap57, kq58, hbl⟩ F
        have z59 := kq58.size
        have hsz := (kq58).size
        replace hh := hh.keep (kq58) (by intro x hx; have := ho.base_le x hx; omega)
        replace hb5 := hb5.keep (kq58) (by intro hx; have h1 := ho.base_le _ hx; (try have h2 := hob0 _ hx); omega)
        replace hl := hl.keep (kq58) (by intro x hx; have := ho.base_le x hx; omega)
        replace hb19 := hb19.keep (kq58) (by intro hx; have h1 := ho.base_le _ hx; (try have h2 := hob0 _ hx); omega)
        replace hb51 := hb51.keep (kq58) (by intro hx; have h1 := ho.base_le _ hx; (try have h2 := hob0 _ hx); omega)
        replace kp0 := kp0.trans (kq58) (by intro x hx hl; have := hob x hx; omega)
        replace ho : Own w56 w23.heap.size 3 1 A54 c55 (vs ++ [.int .i64 (k : Int)]) := hap57
        refine stp F (f_assign rfl) rfl rfl rfl (fun ac F => ?_)
        refine stpEnd ?_
        refine H45 _ _ ?_
        refine c_region ?_
        refine stp F (f_add (r := ((k + 1 : Nat) : Int)) rfl rfl (by rw [IntKind.wrap_i64]; omega)) rfl rfl rfl (fun ac F => ?_)
        refine stp F (f_move rfl) rfl rfl rfl (fun ac F => ?_)
        refine stpEnd ?_
        refine ⟨h.length - (k + 1), ?_, (k + 1), (vs ++ [vi (k : Int)]), A54, c55, F.sub ⟨rfl, rfl, rfl, rfl, rfl, rfl, trivial⟩, kp0, hh, hb5, hl, hb19, ho, by omega, by rw [hvs, rng_succ]; simp, rfl⟩
        omega
      · have hc := hc43
        replace F := F.setb (k := 19) (b' := false) rfl (decide_eq_false hc)
        clear hc
        refine c_false F rfl ?_
        refine wp_exit ?_
        refine H34 _ _ ?_
        refine c_seq (fun K60 H61 => ?_)
        have hkk : k = h.length := by omega
        subst hvs
        obtain ⟨g, post, hA5, hgb, hglt, hc5, hrow⟩ := ho.blk (by rw [rng_len, hkk]; exact hne)
        have hvl2 : ((rng k).map vi).length = h.length := by simp [rng_len, hkk]
        rw [hA5, hvl2] at F
        have hsort := cfT_swo h
        have hlen := stF_len hcode
        have hCm : CmpC Try.prog g 41 #[.pointer (some ⟨g17, 0, none⟩), .pointer (some ⟨g3, 0, none⟩)] (cfT h) (okT h.length) wl37 := fun W x y hk hx hy => total1_c x y g17 g3 _ c _ _ A h W (hb19.keep hk (by simp; omega)) (hb5.keep hk (by simp; omega)) ((hl.keep hk (by intro q hq; simp at hq; omega)).more (Nat.zero_le _) (by have := hk.size; omega)) ((hh.keep hk (by intro q hq; simp at hq; omega)).more (Nat.zero_le _) (by have := hk.size; omega)) (by simp [hlen]) hx hy
        skip
        refine c_region ?_
        refine stp F (f_move rfl) rfl rfl rfl (fun ac F => ?_)
        refine stp F (f_makeFunc (vs := []) (us := [.pointer (some ⟨g17, 0, none⟩), .pointer (some ⟨g3, 0, none⟩)]) rfl rfl) rfl rfl rfl (fun ac F => ?_)
        refine stpC F (f_call (P := Try.prog) (f := 40) (vs := [.slice (some ⟨g, 0, none⟩) h.length c5, .func (.func 41) #[] #[.pointer (some ⟨g17, 0, none⟩), .pointer (some ⟨g3, 0, none⟩)]]) rfl Try.call40) (sortstable_c g h.length c5 41 (rng k).toArray post #[.pointer (some ⟨g17, 0, none⟩), .pointer (some ⟨g3, 0, none⟩)] (cfT h) (okT h.length) hsort _ hrow Try.call41 hCm (by rw [hkk]; exact rng_ok _) (by simp [rng_len, hkk]) (by omega)) rfl rfl rfl ?_
        rintro _ w62 ac ⟨rfl, d65, hp67, hs66, kq63, hq64⟩ F
        have hsz := (kq63).size
        replace hh := hh.keep (kq63) (by intro x hx; simp at hx; omega)
        replace hb5 := hb5.keep (kq63) (by have := hb5.lt; simp; omega)
        replace hl := hl.keep (kq63) (by intro x hx; simp at hx; omega)
        replace hb19 := hb19.keep (kq63) (by have := hb19.lt; simp; omega)
        replace kp0 := kp0.trans (kq63) (by intro x hx hl; simp at hx; omega)
        replace hrow : Blk w62 g 3 (rowI d65 post) := hq64
        refine stpEnd ?_
        refine H61 _ _ ?_
        refine c_seq (fun K68 H69 => ?_)
        refine c_region ?_
        refine stp F (f_move rfl) rfl rfl rfl (fun ac F => ?_)
        refine stp F (f_assign rfl) rfl rfl rfl (fun ac F => ?_)
        refine stp F (f_assign rfl) rfl rfl rfl (fun ac F => ?_)
        refine stpEnd ?_
        refine H69 _ _ ?_
        refine wp_ret ?_
        refine ret2 F rfl rfl rfl ?_
        have hsz2 : d65.toList.length = h.length := by rw [Array.length_toList, hp67.1]; simp [rng_len, hkk]
        refine ⟨some ⟨g, 0, none⟩, c5, d65.toList, by rw [hsz2, hcode], kp0, Blk.sl (post := post) hrow (by rw [hsz2]; simpa [rng_len, hkk] using hc5), fun _ => TotOK.of hkk (by rw [hkk] at hp67 ⊢; exact hp67) (by rw [hkk]; exact hs66)⟩
  · have hc := hc30
    replace F := F.setb (k := 14) (b' := true) rfl (nf (decide_eq_false hc))
    clear hc
    refine c_true F rfl ?_
    refine c_seq (fun K70 H71 => ?_)
    refine c_region ?_
    refine stp F (f_move rfl) rfl rfl rfl (fun ac F => ?_)
    refine stp F (f_assign rfl) rfl rfl rfl (fun ac F => ?_)
    refine stp F (f_assign rfl) rfl rfl rfl (fun ac F => ?_)
    refine stpEnd ?_
    refine H71 _ _ ?_
    refine wp_ret ?_
    refine ret2 F rfl rfl rfl ?_
    exact ⟨none, 0, [], rfl, kp0, Sl.nil _ _ _ _ _, fun h0 => absurd h0 hc30⟩

set_option maxHeartbeats 4000000 in
theorem ins_nil (fv : Value) (w0 : World) : Calls Try.prog 100 #[.slice none 0 0, .int .i64 0, .int .i64 0, fv] w0 (Ret fun v w' => v = .tuple #[] ∧ Kp [] w0 w') := by
  refine enter (n := 53) Try.func100 rfl rfl rfl (fun ac F => ?_)
  have kp0 := Kp.refl ([] : List Nat) w0
  refine c_seq (fun K1 H2 => ?_)
  refine c_region ?_
  refine stp F (f_move rfl) rfl rfl rfl (fun ac F => ?_)
  refine stp F (f_add (r := 1) rfl rfl (by rfl)) rfl rfl rfl (fun ac F => ?_)
  refine stp F (f_assign rfl) rfl rfl rfl (fun ac F => ?_)
  refine stpEnd ?_
  refine H2 _ _ ?_
  refine wp_block ?_
  refine c_loop (fun mx ax wx => Fr ax 53 [(0, .slice none 0 0), (1, .int .i64 0), (2, .int .i64 0), (3, fv), (10, .int .i64 0), (11, .int .i64 1), (8, .int .i64 1)] ∧ Kp [] w0 wx ∧ mx = 0) (0) ?_ ?_
  · exact ⟨F.sub ⟨rfl, rfl, rfl, rfl, rfl, rfl, rfl, trivial⟩, kp0, rfl⟩
  · clear F kp0 
    rintro m4 ac wl3 ⟨F, kp0, hm⟩
    have hsz := kp0.size
    refine c_seq (fun K5 H6 => ?_)
    refine c_seq (fun K7 H8 => ?_)
    refine c_region ?_
    refine stp F (f_move rfl) rfl rfl rfl (fun ac F => ?_)
    refine stp F (f_move rfl) rfl rfl rfl (fun ac F => ?_)
    refine stp F (f_lss rfl rfl) rfl rfl rfl (fun ac F => ?_)
    refine stpEnd ?_
    refine H8 _ _ ?_
    by_cases hc9 : (1 : Int) < 0
    · have hc := hc9
      exact absurd hc (by decide)
    · have hc := hc9
      replace F := F.setb (k := 14) (b' := false) rfl (decide_eq_false hc)
      clear hc
      refine c_false F rfl ?_
      refine wp_exit ?_
      refine end_ret ?_
      refine ret0 F rfl ?_
      exact ⟨rfl, kp0⟩

set_option maxHeartbeats 4000000 in
theorem stable_nil (fv : Value) (w0 : World) : Calls Try.prog 70 #[.slice none 0 0, .int .i64 0, fv] w0 (Ret fun v w' => v = .tuple #[] ∧ Kp [] w0 w') := by
  refine enter (n := 63) Try.func70 rfl rfl rfl (fun ac F => ?_)
  have kp0 := Kp.refl ([] : List Nat) w0
  refine c_seq (fun K1 H2 => ?_)
  refine c_region ?_
  refine stp F (f_assign rfl) rfl rfl rfl (fun ac F => ?_)
  refine stpEnd ?_
  refine H2 _ _ ?_
  refine c_seq (fun K3 H4 => ?_)
  refine c_region ?_
  refine stp F (f_move rfl) rfl rfl rfl (fun ac F => ?_)
  refine stp F (f_assign rfl) rfl rfl rfl (fun ac F => ?_)
  refine stp F (f_assign rfl) rfl rfl rfl (fun ac F => ?_)
  refine stpEnd ?_
  refine H4 _ _ ?_
  refine c_seq (fun K5 H6 => ?_)
  refine wp_block ?_
  refine c_loop (fun mx ax wx => Fr ax 63 [(0, .slice none 0 0), (1, .int .i64 0), (2, fv), (6, .int .i64 20), (10, .int .i64 20), (7, .int .i64 0), (8, .int .i64 20)] ∧ Kp [] w0 wx ∧ mx = 0) (0) ?_ ?_
  · exact ⟨F.sub ⟨rfl, rfl, rfl, rfl, rfl, rfl, rfl, trivial⟩, kp0, rfl⟩
  · clear F kp0 
    rintro m8 ac wl7 ⟨F, kp0, hm⟩
    have hsz := kp0.size
    refine c_seq (fun K9 H10 => ?_)
    refine c_seq (fun K11 H12 => ?_)
    refine c_region ?_
    refine stp F (f_move rfl) rfl rfl rfl (fun ac F => ?_)
    refine stp F (f_move rfl) rfl rfl rfl (fun ac F => ?_)
    refine stp F (f_leq rfl rfl) rfl rfl rfl (fun ac F => ?_)
    refine stpEnd ?_
    refine H12 _ _ ?_
    by_cases hc13 : (20 : Int) ≤ 0
    · have hc := hc13
      exact absurd hc (by decide)
    · have hc := hc13
      replace F := F.setb (k := 13) (b' := false) rfl (decide_eq_false hc)
      clear hc
      refine c_false F rfl ?_
      refine wp_exit ?_
      refine H6 _ _ ?_
      refine c_seq (fun K14 H15 => ?_)
      refine c_region ?_
      refine stp F (f_move rfl) rfl rfl rfl (fun ac F => ?_)
      refine stp F (f_move rfl) rfl rfl rfl (fun ac F => ?_)
      refine stp F (f_move rfl) rfl rfl rfl (fun ac F => ?_)
      refine stp F (f_move rfl) rfl rfl rfl (fun ac F => ?_)
      refine stpC F (f_call (P := Try.prog) (f := 100) (vs := [.slice none 0 0, .int .i64 0, .int .i64 0, fv]) rfl Try.call100) (ins_nil fv _) rfl rfl rfl ?_
      rintro _ w16 ac ⟨rfl, kq17⟩ F
      have hsz := (kq17).size
      replace kp0 := kp0.trans (kq17) (by simp)
      refine stpEnd ?_
      refine H15 _ _ ?_
      refine wp_block ?_
      refine c_loop (fun mx ax wx => Fr ax 63 [(0, .slice none 0 0), (1, .int .i64 0), (2, fv), (6, .int .i64 20), (10, .int .i64 20), (7, .int .i64 0), (8, .int .i64 20), (11, .int .i64 20), (12, .int .i64 0), (13, .bool false), (23, .slice none 0 0), (24, .int .i64 0), (25, .int .i64 0), (26, fv), (27, .tuple #[])] ∧ Kp [] w0 wx ∧ mx = 0) (0) ?_ ?_
      · exact ⟨F.sub ⟨rfl, rfl, rfl, rfl, rfl, rfl, rfl, rfl, rfl, rfl, rfl, rfl, rfl, rfl, rfl, trivial⟩, kp0, rfl⟩
      · clear F kp0 
        rintro m19 ac wl18 ⟨F, kp0, hm⟩
        have hsz := kp0.size
        refine c_seq (fun K20 H21 => ?_)
        refine c_seq (fun K22 H23 => ?_)
        refine c_region ?_
        refine stp F (f_move rfl) rfl rfl rfl (fun ac F => ?_)
        refine stp F (f_move rfl) rfl rfl rfl (fun ac F => ?_)
        refine stp F (f_lss rfl rfl) rfl rfl rfl (fun ac F => ?_)
        refine stpEnd ?_
        refine H23 _ _ ?_
        by_cases hc24 : (20 : Int) < 0
        · have hc := hc24
          exact absurd hc (by decide)
        · have hc := hc24
          replace F := F.setb (k := 30) (b' := false) rfl (decide_eq_false hc)
          clear hc
          refine c_false F rfl ?_
          refine wp_exit ?_
          refine end_ret ?_
          refine ret0 F rfl ?_
          exact ⟨rfl, kp0⟩

set_option maxHeartbeats 4000000 in
theorem sortstable_nil (fv : Value) (w0 : World) : Calls Try.prog 40 #[.slice none 0 0, fv] w0 (Ret fun v w' => v = .tuple #[] ∧ Kp [] w0 w') := by
  refine enter (n := 9) Try.func40 rfl rfl rfl (fun ac F => ?_)
  have kp0 := Kp.refl ([] : List Nat) w0
  refine c_region ?_
  refine stp F (f_move rfl) rfl rfl rfl (fun ac F => ?_)
  refine stp F (f_move rfl) rfl rfl rfl (fun ac F => ?_)
  refine stp F (f_len rfl Try.underlying23) rfl rfl rfl (fun ac F => ?_)
  refine stp F (f_move rfl) rfl rfl rfl (fun ac F => ?_)
  refine stpC F (f_call (P := Try.prog) (f := 70) (vs := [.slice none 0 0, .int .i64 0, fv]) rfl Try.call70) (stable_nil fv _) rfl rfl rfl ?_
  rintro _ w1 ac ⟨rfl, kq2⟩ F
  have hsz := (kq2).size
  replace kp0 := kp0.trans (kq2) (by simp)
  refine stpEnd ?_
  refine end_ret ?_
  refine ret0 F rfl ?_
  exact ⟨rfl, kp0⟩

set_option maxHeartbeats 4000000 in
theorem total_none (A : Option Addr) (c : Nat) (w0 : World) (hh : Sl w0 0 w0.heap.size 3 A 0 c (evv [])) : Calls Try.prog 7 #[.slice A 0 c] w0 (Ret fun v w' => ∃ A' c' t, v = .tuple #[.slice A' t.length c', .int .i64 (checkF [])] ∧ Kp [] w0 w' ∧ Sl w' 0 w'.heap.size 1 A' t.length c' (ivv t) ∧ (checkF [] = 0 → TotOK [] t)) := by
  refine enter (n := 30) Try.func7 rfl rfl rfl (fun ac F => ?_)
  have kp0 := Kp.refl ([] : List Nat) w0
  refine c_seq (fun K1 H2 => ?_)
  refine c_region ?_
  refine stpE F (f_box (cs := [.slice A 0 c]) rfl rfl) rfl rfl rfl ?_
  rintro _ w4 ac ⟨g3, rfl, nb6⟩ F
  have n7 := nb6.num
  have z8 := nb6.size
  have hsz := (nb6.kp).size
  replace hh := hh.keep (nb6.kp) (by simp)
  replace kp0 := kp0.trans (nb6.kp) (by simp)
  have hb5 : Blk w4 g3 22 ([.slice A 0 c]) := nb6.blk
  refine stp F (f_assign rfl) rfl rfl rfl (fun ac F => ?_)
  refine stp F (f_assign rfl) rfl rfl rfl (fun ac F => ?_)
  refine stpEnd ?_
  refine H2 _ _ ?_
  refine c_seq (fun K9 H10 => ?_)
  refine c_region ?_
  refine stp F (f_load1 (v := .slice A 0 c) rfl Try.isAgg22 ((hb5.cell 0).trans rfl)) rfl rfl rfl (fun ac F => ?_)
  refine stpC F (f_call (P := Try.prog) (f := 13) (vs := [.slice A 0 c]) rfl Try.call13) (stamps_c A c ([] : List Ev) _ (hh.more (Nat.zero_le _) (by omega))) rfl rfl rfl ?_
  rintro _ w11 ac ⟨A13, c14, rfl, kq12, -⟩ F
  have hsz := (kq12).size
  replace hh := hh.keep (kq12) (by simp)
  replace hb5 := hb5.keep (kq12) (by simp)
  replace kp0 := kp0.trans (kq12) (by simp)
  refine stp F (f_move rfl) rfl rfl rfl (fun ac F => ?_)
  refine stp F (f_extract (vs := [.slice A13 (((stF []).map vi).length) c14, .int .i64 (checkF [])]) rfl rfl) rfl rfl rfl (fun ac F => ?_)
  refine stp F (f_extract (vs := [.slice A13 (((stF []).map vi).length) c14, .int .i64 (checkF [])]) rfl rfl) rfl rfl rfl (fun ac F => ?_)
  refine stpE F (f_alloc (cs := [.slice none 0 0]) Try.zeroValue23 rfl) rfl rfl rfl ?_
  rintro _ w16 ac ⟨g15, rfl, nb18⟩ F
  have n19 := nb18.num
  have z20 := nb18.size
  have hsz := (nb18.kp).size
  replace hh := hh.keep (nb18.kp) (by simp)
  replace hb5 := hb5.keep (nb18.kp) (by simp)
  replace kp0 := kp0.trans (nb18.kp) (by simp)
  have hb17 : Blk w16 g15 23 ([.slice none 0 0]) := nb18.blk
  refine stpW F (f_store (v := .slice A13 (((stF []).map vi).length) c14) (vs := [.slice A13 (((stF []).map vi).length) c14]) rfl rfl hb17 Try.sizeOf23 rfl rfl (by simp) (by simp [plainV])) rfl rfl ?_
  rintro w21 ac wr22 F
  have z23 := wr22.size
  have hsz := (wr22.kp).size
  replace hh := hh.keep (wr22.kp) (by intro x hx; simp at hx; omega)
  replace hb5 := hb5.keep (wr22.kp) (by have := hb5.lt; simp; omega)
  replace kp0 := kp0.trans (wr22.kp) (by intro x hx hl; simp at hx; omega)
  replace hb17 : Blk w21 g15 23 ([.slice A13 (((stF []).map vi).length) c14]) := wr22.blk
  refine stp F (f_assign rfl) rfl rfl rfl (fun ac F => ?_)
  refine stpEnd ?_
  refine H10 _ _ ?_
  refine c_seq (fun K24 H25 => ?_)
  refine c_seq (fun K26 H27 => ?_)
  refine c_region ?_
  refine stp F (f_move rfl) rfl rfl rfl (fun ac F => ?_)
  refine stp F (f_neq rfl rfl) rfl rfl rfl (fun ac F => ?_)
  refine stpEnd ?_
  refine H27 _ _ ?_
  by_cases hc28 : checkF [] = 0
  · have hc := hc28
    replace F := F.setb (k := 14) (b' := false) rfl (nt (decide_eq_true hc))
    clear hc
    refine c_false F rfl ?_
    refine wp_skip ?_
    refine H25 _ _ ?_
    refine c_seq (fun K29 H30 => ?_)
    refine c_region ?_
    refine stp F (f_assign rfl) rfl rfl rfl (fun ac F => ?_)
    refine stpEnd ?_
    refine H30 _ _ ?_
    refine c_seq (fun K31 H32 => ?_)
    refine c_seq (fun K33 H34 => ?_)
    refine c_region ?_
    refine stp F (f_load1 (v := .slice A 0 c) rfl Try.isAgg22 ((hb5.cell 0).trans rfl)) rfl rfl rfl (fun ac F => ?_)
    refine stp F (f_len rfl Try.underlying22) rfl rfl rfl (fun ac F => ?_)
    refine stp F (f_move rfl) rfl rfl rfl (fun ac F => ?_)
    refine stpEnd ?_
    refine H34 _ _ ?_
    refine wp_block ?_
    refine c_loop (fun mx ax wx => Fr ax 30 [(0, .slice A 0 c), (1, .pointer (some ⟨g3, 0, none⟩)), (2, .slice none 0 0), (3, .int .i64 0), (9, .slice A 0 c), (10, .tuple #[.slice A13 (((stF []).map vi).length) c14, .int .i64 (checkF [])]), (8, .tuple #[.slice A13 (((stF []).map vi).length) c14, .int .i64 (checkF [])]), (11, .slice A13 (((stF []).map vi).length) c14), (12, .int .i64 (checkF [])), (4, .pointer (some ⟨g15, 0, none⟩)), (5, .int .i64 (checkF [])), (13, .int .i64 (checkF [])), (14, .bool false), (6, .slice none 0 0), (16, .slice A 0 c), (17, .int .i64 0), (18, .int .i64 0)] ∧ Kp [] w0 wx ∧ Sl wx 0 w0.heap.size 3 A 0 c (evv []) ∧ Blk wx g3 22 ([.slice A 0 c]) ∧ Blk wx g15 23 ([.slice A13 (((stF []).map vi).length) c14]) ∧ mx = 0) (0) ?_ ?_
    · exact ⟨F.sub ⟨rfl, rfl, rfl, rfl, rfl, rfl, rfl, rfl, rfl, rfl, rfl, rfl, rfl, rfl, rfl, rfl, rfl, trivial⟩, kp0, hh, hb5, hb17, rfl⟩
    · clear F kp0 hh hb5 hb17
      rintro m36 ac wl35 ⟨F, kp0, hh, hb5, hb17, hm⟩
      have hsz := kp0.size
      have lt_hb5 := hb5.lt
      have lt_hb17 := hb17.lt
      refine c_seq (fun K37 H38 => ?_)
      refine c_region ?_
      refine stp F (f_lss rfl rfl) rfl rfl rfl (fun ac F => ?_)
      refine stpEnd ?_
      refine H38 _ _ ?_
      refine c_seq (fun K39 H40 => ?_)
      by_cases hc41 : (0 : Int) < 0
      · have hc := hc41
        exact absurd hc (by decide)
      · have hc := hc41
        replace F := F.setb (k := 19) (b' := false) rfl (decide_eq_false hc)
        clear hc
        refine c_false F rfl ?_
        refine wp_exit ?_
        refine H32 _ _ ?_
        refine c_seq (fun K42 H43 => ?_)
        refine c_region ?_
        refine stp F (f_move rfl) rfl rfl rfl (fun ac F => ?_)
        refine stp F (f_makeFunc (vs := []) (us := [.pointer (some ⟨g15, 0, none⟩), .pointer (some ⟨g3, 0, none⟩)]) rfl rfl) rfl rfl rfl (fun ac F => ?_)
        refine stpC F (f_call (P := Try.prog) (f := 40) (vs := [.slice none 0 0, .func (.func 41) #[] #[.pointer (some ⟨g15, 0, none⟩), .pointer (some ⟨g3, 0, none⟩)]]) rfl Try.call40) (sortstable_nil _ _) rfl rfl rfl ?_
        rintro _ w44 ac ⟨rfl, kq45⟩ F
        have hsz := (kq45).size
        replace hh := hh.keep (kq45) (by simp)
        replace hb5 := hb5.keep (kq45) (by simp)
        replace hb17 := hb17.keep (kq45) (by simp)
        replace kp0 := kp0.trans (kq45) (by simp)
        refine stpEnd ?_
        refine H43 _ _ ?_
        refine c_seq (fun K46 H47 => ?_)
        refine c_region ?_
        refine stp F (f_move rfl) rfl rfl rfl (fun ac F => ?_)
        refine stp F (f_assign rfl) rfl rfl rfl (fun ac F => ?_)
        refine stp F (f_assign rfl) rfl rfl rfl (fun ac F => ?_)
        refine stpEnd ?_
        refine H47 _ _ ?_
        refine wp_ret ?_
        refine ret2 F rfl rfl rfl ?_
        exact ⟨none, 0, [], rfl, kp0, Sl.nil _ _ _ _ _, fun _ => ⟨by simp [rng], fun i j _ hj => by simp at hj⟩⟩
  · have hc := hc28
    replace F := F.setb (k := 14) (b' := true) rfl (nf (decide_eq_false hc))
    clear hc
    refine c_true F rfl ?_
    refine c_seq (fun K48 H49 => ?_)
    refine c_region ?_
    refine stp F (f_move rfl) rfl rfl rfl (fun ac F => ?_)
    refine stp F (f_assign rfl) rfl rfl rfl (fun ac F => ?_)
    refine stp F (f_assign rfl) rfl rfl rfl (fun ac F => ?_)
    refine stpEnd ?_
    refine H49 _ _ ?_
    refine wp_ret ?_
    refine ret2 F rfl rfl rfl ?_
    exact ⟨none, 0, [], rfl, kp0, Sl.nil _ _ _ _ _, fun _ => ⟨by simp [rng], fun i j _ hj => by simp at hj⟩⟩

theorem total_c (A : Option Addr) (c : Nat) (h : List Ev) (w0 : World) (hh : Sl w0 0 w0.heap.size 3 A h.length c (evv h)) : Calls Try.prog 7 #[.slice A h.length c] w0 (Ret fun v w' => ∃ A' c' t, v = .tuple #[.slice A' t.length c', .int .i64 (checkF h)] ∧ Kp [] w0 w' ∧ Sl w' 0 w'.heap.size 1 A' t.length c' (ivv t) ∧ (checkF h = 0 → TotOK h t)) := by
  rcases h with _ | ⟨e, r⟩
  · exact total_none A c w0 hh
  · exact total_some A c (e :: r) w0 hh (by simp)

end Go.Proofs.Ytkbngaollbmcbaa.KK
