/- What the proof leans on: rules for a walk through the code, walks of functions, and plain laws. No condition. -/
import Derived.Test.YtkbngaollbmcbaaDoorWa
import Derived.Test.YtkbngaollbmcbaaDoorKc

namespace Go.Proofs.YtkbngaollbmcbaaDoor.KK
open Go Go.RowKit

set_option maxHeartbeats 4000000 in
theorem del_c (A : Option Addr) (c k base : Nat) (ms : List Ml) (w0 : World) (ho : Own w0 base 38 8 A c (ms.map mlV)) (hk : k < ms.length) (hn : ms.length ≤ 4294967296) : Calls Tryd.prog 26 #[.slice A ms.length c, .int .i64 (k : Int), .int .i64 ((k + 1 : Nat) : Int)] w0 (Ret fun v w' => v = .slice A (ms.eraseIdx k).length c ∧ Own w' base 38 8 A c ((ms.eraseIdx k).map mlV) ∧ Kp (ob A) w0 w') := by
  refine enter (n := 33) Tryd.func26 rfl rfl rfl (fun ac F => ?_)
  have kp0 := Kp.refl (ob A) w0
  have hl : (ms.map mlV).length = ms.length := by simp
  have hlc := ho.2.2
  obtain ⟨gA, cur, hA, _⟩ := ho.opens (by omega)
  obtain ⟨ad, had⟩ : ∃ ad, cutA A c (k + 1) 8 = some ad := by rw [hA]; exact cut_some
  refine c_seq (fun K1 H2 => ?_)
  refine c_region ?_
  refine stp F (f_assign rfl) rfl rfl rfl (fun ac F => ?_)
  refine stpEnd ?_
  refine H2 _ _ ?_
  refine c_seq (fun K3 H4 => ?_)
  refine c_region ?_
  refine stp F (f_move rfl) rfl rfl rfl (fun ac F => ?_)
  refine stp F (f_move rfl) rfl rfl rfl (fun ac F => ?_)
  refine stp F (f_move rfl) rfl rfl rfl (fun ac F => ?_)
  refine stp F (f_move rfl) rfl rfl rfl (fun ac F => ?_)
  refine stp F (f_len rfl Tryd.underlying28) rfl rfl rfl (fun ac F => ?_)
  refine stp F (f_slice3 rfl rfl rfl rfl Tryd.underlying28 Tryd.sizeOf38 (by omega) (by omega) (by omega) (by omega)) rfl rfl rfl (fun ac F => ?_)
  refine stpEnd ?_
  refine H4 _ _ ?_
  refine c_seq (fun K5 H6 => ?_)
  refine c_seq (fun K7 H8 => ?_)
  refine c_region ?_
  refine stp F (f_move rfl) rfl rfl rfl (fun ac F => ?_)
  refine stp F (f_move rfl) rfl rfl rfl (fun ac F => ?_)
  refine stp F (f_eql rfl rfl) rfl rfl rfl (fun ac F => ?_)
  refine stpEnd ?_
  refine H8 _ _ ?_
  have hc : ¬ ((k : Int) = ((k + 1 : Nat) : Int)) := by omega
  replace F := F.setb (k := 16) (b' := false) rfl (decide_eq_false hc)
  refine c_false F rfl ?_
  refine wp_skip ?_
  refine H6 _ _ ?_
  refine c_seq (fun K9 H10 => ?_)
  refine c_region ?_
  refine stp F (f_move rfl) rfl rfl rfl (fun ac F => ?_)
  refine stp F (f_len rfl Tryd.underlying28) rfl rfl rfl (fun ac F => ?_)
  refine stp F (f_assign rfl) rfl rfl rfl (fun ac F => ?_)
  refine stpEnd ?_
  refine H10 _ _ ?_
  refine c_seq (fun K11 H12 => ?_)
  refine c_draw 6 (by rfl) (by decide +kernel) (fun wx => Kp [] w0 wx) (Kp.drew _) ?_
  refine tP F rfl (fun wq => f_move rfl) rfl rfl rfl (fun ac F => ?_)
  refine tP F rfl (fun wq => f_move rfl) rfl rfl rfl (fun ac F => ?_)
  refine tP F rfl (fun wq => f_sliceTo rfl rfl Tryd.underlying28 Tryd.sizeOf38 (by omega) (by omega)) rfl rfl rfl (fun ac F => ?_)
  replace F := F.setv (k := 22) (v' := .slice A k c) rfl (by rw [Int.toNat_natCast])
  refine tP F rfl (fun wq => f_move rfl) rfl rfl rfl (fun ac F => ?_)
  refine tP F rfl (fun wq => f_move rfl) rfl rfl rfl (fun ac F => ?_)
  refine tP F rfl (fun wq => f_sliceFrom rfl rfl Tryd.underlying28 Tryd.sizeOf38 (by omega) (by omega)) rfl rfl rfl (fun ac F => ?_)
  replace F := F.setv (k := 25) (v' := .slice (some ad) (ms.length - (k + 1)) (c - (k + 1))) rfl (by rw [Int.toNat_natCast, had])
  refine tTail (fun w13 hq => ?_)
  have hsz := hq.size
  replace ho := ho.keep hq (by simp)
  replace kp0 := kp0.trans hq (by simp)
  refine stpE F (f_appendFit (sz := 8) (vs := (ms.map mlV).take k) (us := (ms.map mlV).drop (k + 1)) (ad := ad) rfl rfl (by simp; omega) (by simp) Tryd.underlying28 (i := Tryd.t38) (by kernel_rfl) (by kernel_rfl) (by decide) (ho.take (by omega)) (own_rd ho (by omega) had) (fun v hv => ml_one v (List.mem_of_mem_drop hv)) (by simp; omega) (by omega)) rfl rfl rfl ?_
  rintro _ w14 ac ⟨rfl, o2, kq⟩ F
  have hsz := kq.size
  replace kp0 := kp0.trans kq (by intro x hx _; exact hx)
  clear ho
  refine stp F (f_assign rfl) rfl rfl rfl (fun ac F => ?_)
  refine stpEnd ?_
  refine H12 _ _ ?_
  refine c_seq (fun K15 H16 => ?_)
  refine c_region ?_
  refine stp F (f_move rfl) rfl rfl rfl (fun ac F => ?_)
  refine stp F (f_move rfl) rfl rfl rfl (fun ac F => ?_)
  refine stp F (f_len rfl Tryd.underlying28) rfl rfl rfl (fun ac F => ?_)
  refine stp F (f_move rfl) rfl rfl rfl (fun ac F => ?_)
  refine stp F (f_slice2 rfl rfl rfl Tryd.underlying28 Tryd.sizeOf38 (by omega) (by omega) (by omega)) rfl rfl rfl (fun ac F => ?_)
  replace F := F.setv (k := 31) (v' := .slice (some ((adr A).add ((k + (ms.length - (k + 1))) * 8))) 1 (c - (k + (ms.length - (k + 1))))) rfl (by rw [Int.toNat_natCast, Int.toNat_natCast, hA, cut_lt (by omega), show ms.length - (k + (ms.length - (k + 1))) = 1 from by omega])
  refine stpE0 F (f_clear (sz := 8) (m := 1) (A := A) (vs := (ms.map mlV).take k ++ (ms.map mlV).drop (k + 1)) rfl (by rw [show ((ms.map mlV).take k ++ (ms.map mlV).drop (k + 1)).length = k + (ms.length - (k + 1)) from by simp; omega]) (by decide) Tryd.underlying28 Tryd.zeroValue38 rfl (by simp [Value.cells, plainV]) o2 (by simp; omega)) rfl rfl ?_
  rintro _ w17 ac ⟨o3, kq⟩ F
  have hsz := kq.size
  replace kp0 := kp0.trans kq (by intro x hx _; exact hx)
  clear o2
  refine stpEnd ?_
  refine H16 _ _ ?_
  refine c_seq (fun K18 H19 => ?_)
  refine c_region ?_
  refine stp F (f_move rfl) rfl rfl rfl (fun ac F => ?_)
  refine stp F (f_assign rfl) rfl rfl rfl (fun ac F => ?_)
  refine stpEnd ?_
  refine H19 _ _ ?_
  refine wp_ret ?_
  refine ret1 F rfl rfl ?_
  have he : (ms.eraseIdx k).map mlV = (ms.map mlV).take k ++ (ms.map mlV).drop (k + 1) := by rw [List.eraseIdx_eq_take_drop_succ]; simp
  exact ⟨by rw [List.length_eraseIdx_of_lt hk, show k + (ms.length - (k + 1)) = ms.length - 1 from by omega], by rw [he]; exact o3, kp0⟩

set_option maxHeartbeats 4000000 in
theorem delf_c (A : Option Addr) (n c fc lo hi : Nat) (cb : Array Value) (Q : Nat → Prop) (ms : List Ml) (w0 : World) (hl : Sl w0 lo hi 8 A n c (fun i => mlV (ms.getD i default))) (hE : Ent Tryd.prog fc) (hC : ∀ (W : World) (i : Nat), Kp [] w0 W → i < n → Calls Tryd.prog fc (#[] ++ [mlV (ms.getD i default)].toArray ++ cb) W (Ret fun v w' => ∃ b : Bool, v = .bool b ∧ (b = true ↔ Q i) ∧ Kp [] W w')) (hn : n < 4611686018427387904) (hno : ∀ i, i < n → ¬ Q i) : Calls Tryd.prog 27 #[.slice A n c, .func (.func fc) #[] cb] w0 (Ret fun v w' => v = .slice A n c ∧ Kp [] w0 w') := by
  refine enter (n := 42) Tryd.func27 rfl rfl rfl (fun ac F => ?_)
  have kp0 := Kp.refl ([] : List Nat) w0
  refine c_seq (fun K1 H2 => ?_)
  refine c_region ?_
  refine stp F (f_assign rfl) rfl rfl rfl (fun ac F => ?_)
  refine stpEnd ?_
  refine H2 _ _ ?_
  refine c_seq (fun K3 H4 => ?_)
  refine c_region ?_
  refine stp F (f_move rfl) rfl rfl rfl (fun ac F => ?_)
  refine stp F (f_move rfl) rfl rfl rfl (fun ac F => ?_)
  refine stpC F (f_call (P := Tryd.prog) (f := 24) (vs := [.slice A n c, .func (.func fc) #[] cb]) rfl Tryd.call24) (ixm_c A n c fc lo hi cb Q ms _ hl hE hC hn) rfl rfl rfl ?_
  rintro _ w5 ac ⟨r, rfl, kq6, hr⟩ F
  have hsz := (kq6).size
  replace hl := hl.keep (kq6) (by simp)
  replace kp0 := kp0.trans (kq6) (by simp)
  refine stp F (f_assign rfl) rfl rfl rfl (fun ac F => ?_)
  refine stpEnd ?_
  refine H4 _ _ ?_
  refine c_seq (fun K7 H8 => ?_)
  refine c_seq (fun K9 H10 => ?_)
  refine c_region ?_
  refine stp F (f_move rfl) rfl rfl rfl (fun ac F => ?_)
  refine stp F (f_eql rfl rfl) rfl rfl rfl (fun ac F => ?_)
  refine stpEnd ?_
  refine H10 _ _ ?_
  have hc : r = -1 := by rcases hr with h | ⟨k, h1, _, h3, _⟩; exact h.1; exact absurd h3 (hno k h1)
  replace F := F.setb (k := 12) (b' := true) rfl (decide_eq_true hc)
  refine c_true F rfl ?_
  refine c_seq (fun K11 H12 => ?_)
  refine c_region ?_
  refine stp F (f_move rfl) rfl rfl rfl (fun ac F => ?_)
  refine stp F (f_assign rfl) rfl rfl rfl (fun ac F => ?_)
  refine stpEnd ?_
  refine H12 _ _ ?_
  refine wp_ret ?_
  refine ret1 F rfl rfl ?_
  exact ⟨rfl, kp0⟩

end Go.Proofs.YtkbngaollbmcbaaDoor.KK

namespace Go.Proofs.YtkbngaollbmcbaaDoor.KK
open Go Go.RowKit

set_option maxHeartbeats 4000000 in
theorem hear_c (A : Option Addr) (c : Nat) (me : Int) (s : Nat → Int) (hold : List Ml) (m : Ml) (w0 : World) (hh : Sl w0 0 w0.heap.size 8 A hold.length c (fun i => mlV (hold.getD i default))) (hV : Valid me s hold) (hF : Formed m) (hb : (∀ i, i < 6 → m.a i ≤ 16777215) ∧ ∀ x ∈ hold, ∀ i, i < 6 → x.a i ≤ 16777215) : Calls Tryd.prog 13 #[.agg #[.int .i64 me, .int .i64 (s 0), .int .i64 (s 1), .int .i64 (s 2), .int .i64 (s 3), .int .i64 (s 4), .int .i64 (s 5), .slice A hold.length c], .agg #[.int .i64 m.f, .int .i64 (m.a 0), .int .i64 (m.a 1), .int .i64 (m.a 2), .int .i64 (m.a 3), .int .i64 (m.a 4), .int .i64 (m.a 5), .string m.t]] w0 (Ret fun v w' => match hearN me s hold m with
  | none => Kp [] w0 w' ∧ v = .tuple #[.agg #[.int .i64 0, .int .i64 0, .int .i64 0, .int .i64 0, .int .i64 0, .int .i64 0, .int .i64 0, .slice none 0 0], .slice none 0 0, .int .i64 8]
  | some r => ∃ A' c' B d, v = .tuple #[.agg #[.int .i64 me, .int .i64 (r.1 0), .int .i64 (r.1 1), .int .i64 (r.1 2), .int .i64 (r.1 3), .int .i64 (r.1 4), .int .i64 (r.1 5), .slice A' r.2.1.length c'], .slice B r.2.2.length d, .int .i64 0] ∧ Kp [] w0 w' ∧ Own w' w0.heap.size 38 8 A' c' (r.2.1.map mlV) ∧ Own w' w0.heap.size 38 8 B d (r.2.2.map mlV)) := by
  refine enter (n := 102) Tryd.func13 rfl rfl rfl (fun ac F => ?_)
  have kp0 := Kp.refl ([] : List Nat) w0
  have hme := hV.hme
  have hs := hV.hs
  have h40 := hV.len
  have hrg : 0 ≤ m.f ∧ m.f ≤ 5 := ⟨hF.1, hF.2.1⟩
  have hsmf := hs m.f.toNat (by omega)
  refine c_seq (fun K1 H2 => ?_)
  refine c_region ?_
  refine stpE F (f_box (cs := [.int .i64 me, .int .i64 (s 0), .int .i64 (s 1), .int .i64 (s 2), .int .i64 (s 3), .int .i64 (s 4), .int .i64 (s 5), .slice A hold.length c]) rfl rfl) rfl rfl rfl ?_
  rintro _ w4 ac ⟨g3, rfl, nb6⟩ F
  have n7 := nb6.num
  have z8 := nb6.size
  have hsz := (nb6.kp).size
  replace hh := hh.keep (nb6.kp) (by simp)
  replace kp0 := kp0.trans (nb6.kp) (by simp)
  have hb5 : Blk w4 g3 32 ([.int .i64 me, .int .i64 (s 0), .int .i64 (s 1), .int .i64 (s 2), .int .i64 (s 3), .int .i64 (s 4), .int .i64 (s 5), .slice A hold.length c]) := nb6.blk
  refine stpE F (f_box (cs := [.int .i64 m.f, .int .i64 (m.a 0), .int .i64 (m.a 1), .int .i64 (m.a 2), .int .i64 (m.a 3), .int .i64 (m.a 4), .int .i64 (m.a 5), .string m.t]) rfl rfl) rfl rfl rfl ?_
  rintro _ w10 ac ⟨g9, rfl, nb12⟩ F
  have n13 := nb12.num
  have z14 := nb12.size
  have hsz := (nb12.kp).size
  replace hh := hh.keep (nb12.kp) (by simp)
  replace hb5 := hb5.keep (nb12.kp) (by simp)
  replace kp0 := kp0.trans (nb12.kp) (by simp)
  have hb11 : Blk w10 g9 38 ([.int .i64 m.f, .int .i64 (m.a 0), .int .i64 (m.a 1), .int .i64 (m.a 2), .int .i64 (m.a 3), .int .i64 (m.a 4), .int .i64 (m.a 5), .string m.t]) := nb12.blk
  refine stpE F (f_alloc (cs := [.int .i64 0, .int .i64 0, .int .i64 0, .int .i64 0, .int .i64 0, .int .i64 0, .int .i64 0, .slice none 0 0]) Tryd.zeroValue32 rfl) rfl rfl rfl ?_
  rintro _ w16 ac ⟨g15, rfl, nb18⟩ F
  have n19 := nb18.num
  have z20 := nb18.size
  have hsz := (nb18.kp).size
  replace hh := hh.keep (nb18.kp) (by simp)
  replace hb5 := hb5.keep (nb18.kp) (by simp)
  replace hb11 := hb11.keep (nb18.kp) (by simp)
  replace kp0 := kp0.trans (nb18.kp) (by simp)
  have hb17 : Blk w16 g15 32 ([.int .i64 0, .int .i64 0, .int .i64 0, .int .i64 0, .int .i64 0, .int .i64 0, .int .i64 0, .slice none 0 0]) := nb18.blk
  refine stp F (f_assign rfl) rfl rfl rfl (fun ac F => ?_)
  refine stp F (f_assign rfl) rfl rfl rfl (fun ac F => ?_)
  refine stpEnd ?_
  refine H2 _ _ ?_
  refine c_seq (fun K21 H22 => ?_)
  refine c_seq (fun K23 H24 => ?_)
  refine c_region ?_
  refine stp F (f_loadN rfl Tryd.isAgg32 Tryd.sizeOf32 hb5.rdAll) rfl rfl rfl (fun ac F => ?_)
  refine stpC F (f_call (P := Tryd.prog) (f := 16) (vs := [.agg #[.int .i64 me, .int .i64 (s 0), .int .i64 (s 1), .int .i64 (s 2), .int .i64 (s 3), .int .i64 (s 4), .int .i64 (s 5), .slice A hold.length c]]) rfl Tryd.call16) (check_c A c me s hold _ (hh.more (Nat.zero_le _) (by omega)) hV) rfl rfl rfl ?_
  rintro _ w25 ac ⟨rfl, kq26⟩ F
  have hsz := (kq26).size
  replace hh := hh.keep (kq26) (by simp)
  replace hb5 := hb5.keep (kq26) (by simp)
  replace hb11 := hb11.keep (kq26) (by simp)
  replace hb17 := hb17.keep (kq26) (by simp)
  replace kp0 := kp0.trans (kq26) (by simp)
  refine stp F (f_assign rfl) rfl rfl rfl (fun ac F => ?_)
  refine stpEnd ?_
  refine H24 _ _ ?_
  refine c_seq (fun K27 H28 => ?_)
  refine c_region ?_
  refine stp F (f_move rfl) rfl rfl rfl (fun ac F => ?_)
  refine stp F (f_neq rfl rfl) rfl rfl rfl (fun ac F => ?_)
  refine stpEnd ?_
  refine H28 _ _ ?_
  have hc : (0 : Int) = 0 := by rfl
  replace F := F.setb (k := 14) (b' := false) rfl (nt (decide_eq_true hc))
  refine c_false F rfl ?_
  refine wp_skip ?_
  refine H22 _ _ ?_
  refine c_seq (fun K29 H30 => ?_)
  refine c_seq (fun K31 H32 => ?_)
  refine c_region ?_
  refine stp F (f_loadN rfl Tryd.isAgg38 Tryd.sizeOf38 hb11.rdAll) rfl rfl rfl (fun ac F => ?_)
  refine stpC F (f_call (P := Tryd.prog) (f := 19) (vs := [.agg #[.int .i64 m.f, .int .i64 (m.a 0), .int .i64 (m.a 1), .int .i64 (m.a 2), .int .i64 (m.a 3), .int .i64 (m.a 4), .int .i64 (m.a 5), .string m.t]]) rfl Tryd.call19) (bool_t (formed_c m _) (hF)) rfl rfl rfl ?_
  rintro _ w33 ac ⟨rfl, kq34⟩ F
  have hsz := (kq34).size
  replace hh := hh.keep (kq34) (by simp)
  replace hb5 := hb5.keep (kq34) (by simp)
  replace hb11 := hb11.keep (kq34) (by simp)
  replace hb17 := hb17.keep (kq34) (by simp)
  replace kp0 := kp0.trans (kq34) (by simp)
  refine stp F (f_not rfl) rfl rfl rfl (fun ac F => ?_)
  refine stpEnd ?_
  refine H32 _ _ ?_
  refine c_false F rfl ?_
  refine wp_skip ?_
  refine H30 _ _ ?_
  refine c_seq (fun K35 H36 => ?_)
  refine c_region ?_
  refine stp F (f_loadN rfl Tryd.isAgg32 Tryd.sizeOf32 hb5.rdAll) rfl rfl rfl (fun ac F => ?_)
  refine stpC F (f_call (P := Tryd.prog) (f := 17) (vs := [.agg #[.int .i64 me, .int .i64 (s 0), .int .i64 (s 1), .int .i64 (s 2), .int .i64 (s 3), .int .i64 (s 4), .int .i64 (s 5), .slice A hold.length c]]) rfl Tryd.call17) (cclone_c A c me s hold _ (hh.more (Nat.zero_le _) (by omega)) (by omega)) rfl rfl rfl ?_
  rintro _ w37 ac ⟨A2, c2, rfl, kq38, ho, _⟩ F
  have hsz := (kq38).size
  replace hh := hh.keep (kq38) (by simp)
  replace hb5 := hb5.keep (kq38) (by simp)
  replace hb11 := hb11.keep (kq38) (by simp)
  replace hb17 := hb17.keep (kq38) (by simp)
  replace kp0 := kp0.trans (kq38) (by simp)
  have hob0 := ho.base_le
  refine stpE F (f_alloc (cs := [.int .i64 0, .int .i64 0, .int .i64 0, .int .i64 0, .int .i64 0, .int .i64 0, .int .i64 0, .slice none 0 0]) Tryd.zeroValue32 rfl) rfl rfl rfl ?_
  rintro _ w40 ac ⟨g39, rfl, nb42⟩ F
  have n43 := nb42.num
  have z44 := nb42.size
  have hsz := (nb42.kp).size
  replace hh := hh.keep (nb42.kp) (by simp)
  replace hb5 := hb5.keep (nb42.kp) (by simp)
  replace hb11 := hb11.keep (nb42.kp) (by simp)
  replace hb17 := hb17.keep (nb42.kp) (by simp)
  replace ho := ho.keep (nb42.kp) (by simp)
  replace kp0 := kp0.trans (nb42.kp) (by simp)
  have hb41 : Blk w40 g39 32 ([.int .i64 0, .int .i64 0, .int .i64 0, .int .i64 0, .int .i64 0, .int .i64 0, .int .i64 0, .slice none 0 0]) := nb42.blk
  refine stpW F (f_store (v := .agg #[.int .i64 me, .int .i64 (s 0), .int .i64 (s 1), .int .i64 (s 2), .int .i64 (s 3), .int .i64 (s 4), .int .i64 (s 5), .slice A2 hold.length c2]) (vs := [.int .i64 me, .int .i64 (s 0), .int .i64 (s 1), .int .i64 (s 2), .int .i64 (s 3), .int .i64 (s 4), .int .i64 (s 5), .slice A2 hold.length c2]) rfl rfl hb41 Tryd.sizeOf32 rfl rfl (by simp) (by simp [plainV])) rfl rfl ?_
  rintro w45 ac wr46 F
  have z47 := wr46.size
  have hsz := (wr46.kp).size
  replace hh := hh.keep (wr46.kp) (by intro x hx; simp at hx; omega)
  replace hb5 := hb5.keep (wr46.kp) (by have := hb5.lt; simp; omega)
  replace hb11 := hb11.keep (wr46.kp) (by have := hb11.lt; simp; omega)
  replace hb17 := hb17.keep (wr46.kp) (by have := hb17.lt; simp; omega)
  replace ho := ho.keep (wr46.kp) (by intro x hx hm; have h1 := ho.base_le x hx; (try have h2 := hob0 x hx); (try have h3 := hob1 x hx); simp at hm; omega)
  replace kp0 := kp0.trans (wr46.kp) (by intro x hx hl; simp at hx; omega)
  replace hb41 : Blk w45 g39 32 ([.int .i64 me, .int .i64 (s 0), .int .i64 (s 1), .int .i64 (s 2), .int .i64 (s 3), .int .i64 (s 4), .int .i64 (s 5), .slice A2 hold.length c2]) := wr46.blk
  refine stpEnd ?_
  refine H36 _ _ ?_
  refine c_seq (fun K48 H49 => ?_)
  refine c_seq (fun K50 H51 => ?_)
  refine c_draw 24 (by rfl) (by decide +kernel) (fun wx => Kp [] w45 wx) (Kp.drew _) ?_
  refine tP F rfl (fun wq => f_fieldAddr (r := ⟨g9, 0, none⟩) (sz := 0) rfl Tryd.underlying38 rfl Tryd.sizeOf3 rfl) rfl rfl rfl (fun ac F => ?_)
  refine tQ F rfl (fun wq hq => f_load1 (v := .int .i64 m.f) rfl Tryd.isAgg3 (((hb11.keep hq (by simp)).cell 0).trans rfl)) rfl rfl rfl (fun ac F => ?_)
  refine tP F rfl (fun wq => f_fieldAddr (r := ⟨g3, 0, none⟩) (sz := 0) rfl Tryd.underlying32 rfl Tryd.sizeOf3 rfl) rfl rfl rfl (fun ac F => ?_)
  refine tQ F rfl (fun wq hq => f_load1 (v := .int .i64 me) rfl Tryd.isAgg3 (((hb5.keep hq (by simp)).cell 0).trans rfl)) rfl rfl rfl (fun ac F => ?_)
  refine tP F rfl (fun wq => f_eql rfl rfl) rfl rfl rfl (fun ac F => ?_)
  refine tP F rfl (fun wq => f_move rfl) rfl rfl rfl (fun ac F => ?_)
  by_cases hc52 : m.f = me
  · have hc := hc52
    replace F := F.setb (k := 27) (b' := true) rfl (decide_eq_true hc)
    replace F := F.setb (k := 28) (b' := true) rfl (decide_eq_true hc)
    clear hc
    refine tN F rfl rfl rfl (fun ac F => ?_)
    refine tN F rfl rfl rfl (fun ac F => ?_)
    refine tN F rfl rfl rfl (fun ac F => ?_)
    refine tN F rfl rfl rfl (fun ac F => ?_)
    refine tN F rfl rfl rfl (fun ac F => ?_)
    refine tN F rfl rfl rfl (fun ac F => ?_)
    refine tN F rfl rfl rfl (fun ac F => ?_)
    refine tN F rfl rfl rfl (fun ac F => ?_)
    refine tN F rfl rfl rfl (fun ac F => ?_)
    refine tN F rfl rfl rfl (fun ac F => ?_)
    refine tN F rfl rfl rfl (fun ac F => ?_)
    refine tP F rfl (fun wq => f_pickT rfl rfl) rfl rfl rfl (fun ac F => ?_)
    refine tP F rfl (fun wq => f_move rfl) rfl rfl rfl (fun ac F => ?_)
    refine tN F rfl rfl rfl (fun ac F => ?_)
    refine tN F rfl rfl rfl (fun ac F => ?_)
    refine tN F rfl rfl rfl (fun ac F => ?_)
    refine tN F rfl rfl rfl (fun ac F => ?_)
    refine tP F rfl (fun wq => f_pickT rfl rfl) rfl rfl rfl (fun ac F => ?_)
    refine tEnd (fun w53 hq => ?_)
    have hsz := hq.size
    replace hh := hh.keep hq (by simp)
    replace hb5 := hb5.keep hq (by simp)
    replace hb11 := hb11.keep hq (by simp)
    replace hb17 := hb17.keep hq (by simp)
    replace ho := ho.keep hq (by simp)
    replace hb41 := hb41.keep hq (by simp)
    replace kp0 := kp0.trans hq (by simp)
    refine H51 _ _ ?_
    refine c_true F rfl ?_
    refine c_seq (fun K54 H55 => ?_)
    refine c_region ?_
    refine stp F (f_loadN rfl Tryd.isAgg32 Tryd.sizeOf32 hb41.rdAll) rfl rfl rfl (fun ac F => ?_)
    refine stpW F (f_store (v := .agg #[.int .i64 me, .int .i64 (s 0), .int .i64 (s 1), .int .i64 (s 2), .int .i64 (s 3), .int .i64 (s 4), .int .i64 (s 5), .slice A2 hold.length c2]) (vs := [.int .i64 me, .int .i64 (s 0), .int .i64 (s 1), .int .i64 (s 2), .int .i64 (s 3), .int .i64 (s 4), .int .i64 (s 5), .slice A2 hold.length c2]) rfl rfl hb17 Tryd.sizeOf32 rfl rfl (by simp) (by simp [plainV])) rfl rfl ?_
    rintro w56 ac wr57 F
    have z58 := wr57.size
    have hsz := (wr57.kp).size
    replace hh := hh.keep (wr57.kp) (by intro x hx; simp at hx; omega)
    replace hb5 := hb5.keep (wr57.kp) (by have := hb5.lt; simp; omega)
    replace hb11 := hb11.keep (wr57.kp) (by have := hb11.lt; simp; omega)
    replace ho := ho.keep (wr57.kp) (by intro x hx hm; have h1 := ho.base_le x hx; (try have h2 := hob0 x hx); (try have h3 := hob1 x hx); simp at hm; omega)
    replace hb41 := hb41.keep (wr57.kp) (by have := hb41.lt; simp; omega)
    replace kp0 := kp0.trans (wr57.kp) (by intro x hx hl; simp at hx; omega)
    replace hb17 : Blk w56 g15 32 ([.int .i64 me, .int .i64 (s 0), .int .i64 (s 1), .int .i64 (s 2), .int .i64 (s 3), .int .i64 (s 4), .int .i64 (s 5), .slice A2 hold.length c2]) := wr57.blk
    refine stp F (f_assign rfl) rfl rfl rfl (fun ac F => ?_)
    refine stp F (f_assign rfl) rfl rfl rfl (fun ac F => ?_)
    refine stpEnd ?_
    refine H55 _ _ ?_
    refine wp_ret ?_
    refine retR3 F rfl ⟨_, rfl, run_loadVarN Tryd.isAgg32 Tryd.sizeOf32 hb17.rdAll⟩ rfl rfl ?_
    rw [hearN, if_pos (by first | exact .inl (by omega) | exact .inr (.inl (by assumption)) | exact .inr (.inr (by assumption)))]
    exact ⟨A2, c2, none, 0, rfl, kp0, ho.more (by omega), Own.nil _ _ _ _⟩
  · have hc := hc52
    replace F := F.setb (k := 27) (b' := false) rfl (decide_eq_false hc)
    replace F := F.setb (k := 28) (b' := false) rfl (decide_eq_false hc)
    clear hc
    refine tP F rfl (fun wq => f_fieldAddr (r := ⟨g9, 0, none⟩) (sz := 0) rfl Tryd.underlying38 rfl Tryd.sizeOf3 rfl) rfl rfl rfl (fun ac F => ?_)
    refine tQ F rfl (fun wq hq => f_load1 (v := .int .i64 m.f) rfl Tryd.isAgg3 (((hb11.keep hq (by simp)).cell 0).trans rfl)) rfl rfl rfl (fun ac F => ?_)
    refine tP F rfl (fun wq => f_fieldAddr (r := ⟨g9, 1, none⟩) (sz := 5) rfl Tryd.underlying38 rfl Tryd.sizeOf30 rfl) rfl rfl rfl (fun ac F => ?_)
    refine tP F rfl (fun wq => f_indexA (r := ⟨g9, 1 + m.f.toNat * 1, none⟩) rfl rfl Tryd.underlying30 Tryd.sizeOf3 (by omega) (by omega) (add_eq (by omega))) rfl rfl rfl (fun ac F => ?_)
    refine tQ F rfl (fun wq hq => f_load1 (v := .int .i64 (m.a m.f.toNat)) rfl Tryd.isAgg3 (((hb11.keep hq (by simp)).cell _).trans (six (o := 1) (q := 1 + m.f.toNat * 1) (f := fun i_ => .int .i64 (m.a i_)) rfl rfl rfl rfl rfl rfl (j := m.f.toNat) (by omega) (by omega)))) rfl rfl rfl (fun ac F => ?_)
    refine tP F rfl (fun wq => f_fieldAddr (r := ⟨g9, 0, none⟩) (sz := 0) rfl Tryd.underlying38 rfl Tryd.sizeOf3 rfl) rfl rfl rfl (fun ac F => ?_)
    refine tQ F rfl (fun wq hq => f_load1 (v := .int .i64 m.f) rfl Tryd.isAgg3 (((hb11.keep hq (by simp)).cell 0).trans rfl)) rfl rfl rfl (fun ac F => ?_)
    refine tP F rfl (fun wq => f_fieldAddr (r := ⟨g3, 1, none⟩) (sz := 5) rfl Tryd.underlying32 rfl Tryd.sizeOf30 rfl) rfl rfl rfl (fun ac F => ?_)
    refine tP F rfl (fun wq => f_indexA (r := ⟨g3, 1 + m.f.toNat * 1, none⟩) rfl rfl Tryd.underlying30 Tryd.sizeOf3 (by omega) (by omega) (add_eq (by omega))) rfl rfl rfl (fun ac F => ?_)
    refine tQ F rfl (fun wq hq => f_load1 (v := .int .i64 (s m.f.toNat)) rfl Tryd.isAgg3 (((hb5.keep hq (by simp)).cell _).trans (six (o := 1) (q := 1 + m.f.toNat * 1) (f := fun i_ => .int .i64 (s i_)) rfl rfl rfl rfl rfl rfl (j := m.f.toNat) (by omega) (by omega)))) rfl rfl rfl (fun ac F => ?_)
    refine tP F rfl (fun wq => f_leq rfl rfl) rfl rfl rfl (fun ac F => ?_)
    refine tP F rfl (fun wq => f_pickF rfl rfl) rfl rfl rfl (fun ac F => ?_)
    refine tP F rfl (fun wq => f_move rfl) rfl rfl rfl (fun ac F => ?_)
    by_cases hc59 : m.a m.f.toNat ≤ s m.f.toNat
    · have hc := hc59
      replace F := F.setb (k := 39) (b' := true) rfl (decide_eq_true hc)
      replace F := F.setb (k := 40) (b' := true) rfl (decide_eq_true hc)
      replace F := F.setb (k := 41) (b' := true) rfl (decide_eq_true hc)
      clear hc
      refine tN F rfl rfl rfl (fun ac F => ?_)
      refine tN F rfl rfl rfl (fun ac F => ?_)
      refine tN F rfl rfl rfl (fun ac F => ?_)
      refine tN F rfl rfl rfl (fun ac F => ?_)
      refine tP F rfl (fun wq => f_pickT rfl rfl) rfl rfl rfl (fun ac F => ?_)
      refine tEnd (fun w60 hq => ?_)
      have hsz := hq.size
      replace hh := hh.keep hq (by simp)
      replace hb5 := hb5.keep hq (by simp)
      replace hb11 := hb11.keep hq (by simp)
      replace hb17 := hb17.keep hq (by simp)
      replace ho := ho.keep hq (by simp)
      replace hb41 := hb41.keep hq (by simp)
      replace kp0 := kp0.trans hq (by simp)
      refine H51 _ _ ?_
      refine c_true F rfl ?_
      refine c_seq (fun K61 H62 => ?_)
      refine c_region ?_
      refine stp F (f_loadN rfl Tryd.isAgg32 Tryd.sizeOf32 hb41.rdAll) rfl rfl rfl (fun ac F => ?_)
      refine stpW F (f_store (v := .agg #[.int .i64 me, .int .i64 (s 0), .int .i64 (s 1), .int .i64 (s 2), .int .i64 (s 3), .int .i64 (s 4), .int .i64 (s 5), .slice A2 hold.length c2]) (vs := [.int .i64 me, .int .i64 (s 0), .int .i64 (s 1), .int .i64 (s 2), .int .i64 (s 3), .int .i64 (s 4), .int .i64 (s 5), .slice A2 hold.length c2]) rfl rfl hb17 Tryd.sizeOf32 rfl rfl (by simp) (by simp [plainV])) rfl rfl ?_
      rintro w63 ac wr64 F
      have z65 := wr64.size
      have hsz := (wr64.kp).size
      replace hh := hh.keep (wr64.kp) (by intro x hx; simp at hx; omega)
      replace hb5 := hb5.keep (wr64.kp) (by have := hb5.lt; simp; omega)
      replace hb11 := hb11.keep (wr64.kp) (by have := hb11.lt; simp; omega)
      replace ho := ho.keep (wr64.kp) (by intro x hx hm; have h1 := ho.base_le x hx; (try have h2 := hob0 x hx); (try have h3 := hob1 x hx); simp at hm; omega)
      replace hb41 := hb41.keep (wr64.kp) (by have := hb41.lt; simp; omega)
      replace kp0 := kp0.trans (wr64.kp) (by intro x hx hl; simp at hx; omega)
      replace hb17 : Blk w63 g15 32 ([.int .i64 me, .int .i64 (s 0), .int .i64 (s 1), .int .i64 (s 2), .int .i64 (s 3), .int .i64 (s 4), .int .i64 (s 5), .slice A2 hold.length c2]) := wr64.blk
      refine stp F (f_assign rfl) rfl rfl rfl (fun ac F => ?_)
      refine stp F (f_assign rfl) rfl rfl rfl (fun ac F => ?_)
      refine stpEnd ?_
      refine H62 _ _ ?_
      refine wp_ret ?_
      refine retR3 F rfl ⟨_, rfl, run_loadVarN Tryd.isAgg32 Tryd.sizeOf32 hb17.rdAll⟩ rfl rfl ?_
      rw [hearN, if_pos (by first | exact .inl (by omega) | exact .inr (.inl (by assumption)) | exact .inr (.inr (by assumption)))]
      exact ⟨A2, c2, none, 0, rfl, kp0, ho.more (by omega), Own.nil _ _ _ _⟩
    · have hc := hc59
      replace F := F.setb (k := 39) (b' := false) rfl (decide_eq_false hc)
      replace F := F.setb (k := 40) (b' := false) rfl (decide_eq_false hc)
      replace F := F.setb (k := 41) (b' := false) rfl (decide_eq_false hc)
      clear hc
      refine tP F rfl (fun wq => f_fieldAddr (r := ⟨g3, 7, none⟩) (sz := 0) rfl Tryd.underlying32 rfl Tryd.sizeOf28 rfl) rfl rfl rfl (fun ac F => ?_)
      refine tQ F rfl (fun wq hq => f_load1 (v := .slice A hold.length c) rfl Tryd.isAgg28 (((hb5.keep hq (by simp)).cell 7).trans rfl)) rfl rfl rfl (fun ac F => ?_)
      refine tP F rfl (fun wq => f_makeFunc (vs := []) (us := [.pointer (some ⟨g9, 0, none⟩)]) rfl rfl) rfl rfl rfl (fun ac F => ?_)
      refine tC F rfl (fun wq => f_call (P := Tryd.prog) (f := 20) (vs := [.slice A hold.length c, .func (.func 21) #[] #[.pointer (some ⟨g9, 0, none⟩)]]) rfl Tryd.call20) (fun wq hq => (bool_d (bool_iff (ixmb_c A hold.length c 21 0 _ #[.pointer (some ⟨g9, 0, none⟩)] (fun i => Same (hold.getD i default) m) hold _ ((hh.keep hq (by simp)).more (Nat.zero_le _) (by omega)) Tryd.call21 (fun W i hk hi => hear1_c g9 (hold.getD i default) m W (hb11.keep (hq.trans hk (by simp)) (by simp)) (hV.rng i hi) hrg) (by omega)) (ex_getD (Q := fun x => Same x m)))).mono fun e w h => by cases e <;> first | exact ⟨h.1, hq.trans h.2 (by simp)⟩ | exact h.elim) rfl rfl rfl (fun ac F => ?_)
      refine tP F rfl (fun wq => f_pickF rfl rfl) rfl rfl rfl (fun ac F => ?_)
      refine tEnd (fun w66 hq => ?_)
      have hsz := hq.size
      replace hh := hh.keep hq (by simp)
      replace hb5 := hb5.keep hq (by simp)
      replace hb11 := hb11.keep hq (by simp)
      replace hb17 := hb17.keep hq (by simp)
      replace ho := ho.keep hq (by simp)
      replace hb41 := hb41.keep hq (by simp)
      replace kp0 := kp0.trans hq (by simp)
      refine H51 _ _ ?_
      by_cases hc67 : HasSame hold m
      · have hc := hc67
        replace F := F.setb (k := 45) (b' := true) rfl (decide_eq_true hc)
        replace F := F.setb (k := 46) (b' := true) rfl (decide_eq_true hc)
        clear hc
        refine c_true F rfl ?_
        refine c_seq (fun K68 H69 => ?_)
        refine c_region ?_
        refine stp F (f_loadN rfl Tryd.isAgg32 Tryd.sizeOf32 hb41.rdAll) rfl rfl rfl (fun ac F => ?_)
        refine stpW F (f_store (v := .agg #[.int .i64 me, .int .i64 (s 0), .int .i64 (s 1), .int .i64 (s 2), .int .i64 (s 3), .int .i64 (s 4), .int .i64 (s 5), .slice A2 hold.length c2]) (vs := [.int .i64 me, .int .i64 (s 0), .int .i64 (s 1), .int .i64 (s 2), .int .i64 (s 3), .int .i64 (s 4), .int .i64 (s 5), .slice A2 hold.length c2]) rfl rfl hb17 Tryd.sizeOf32 rfl rfl (by simp) (by simp [plainV])) rfl rfl ?_
        rintro w70 ac wr71 F
        have z72 := wr71.size
        have hsz := (wr71.kp).size
        replace hh := hh.keep (wr71.kp) (by intro x hx; simp at hx; omega)
        replace hb5 := hb5.keep (wr71.kp) (by have := hb5.lt; simp; omega)
        replace hb11 := hb11.keep (wr71.kp) (by have := hb11.lt; simp; omega)
        replace ho := ho.keep (wr71.kp) (by intro x hx hm; have h1 := ho.base_le x hx; (try have h2 := hob0 x hx); (try have h3 := hob1 x hx); simp at hm; omega)
        replace hb41 := hb41.keep (wr71.kp) (by have := hb41.lt; simp; omega)
        replace kp0 := kp0.trans (wr71.kp) (by intro x hx hl; simp at hx; omega)
        replace hb17 : Blk w70 g15 32 ([.int .i64 me, .int .i64 (s 0), .int .i64 (s 1), .int .i64 (s 2), .int .i64 (s 3), .int .i64 (s 4), .int .i64 (s 5), .slice A2 hold.length c2]) := wr71.blk
        refine stp F (f_assign rfl) rfl rfl rfl (fun ac F => ?_)
        refine stp F (f_assign rfl) rfl rfl rfl (fun ac F => ?_)
        refine stpEnd ?_
        refine H69 _ _ ?_
        refine wp_ret ?_
        refine retR3 F rfl ⟨_, rfl, run_loadVarN Tryd.isAgg32 Tryd.sizeOf32 hb17.rdAll⟩ rfl rfl ?_
        rw [hearN, if_pos (by first | exact .inl (by omega) | exact .inr (.inl (by assumption)) | exact .inr (.inr (by assumption)))]
        exact ⟨A2, c2, none, 0, rfl, kp0, ho.more (by omega), Own.nil _ _ _ _⟩
      · have hc := hc67
        replace F := F.setb (k := 45) (b' := false) rfl (decide_eq_false hc)
        replace F := F.setb (k := 46) (b' := false) rfl (decide_eq_false hc)
        clear hc
        refine c_false F rfl ?_
        refine wp_skip ?_
        refine H49 _ _ ?_
        refine c_seq (fun K73 H74 => ?_)
        refine c_seq (fun K75 H76 => ?_)
        have hnn : ¬ (m.f = me ∨ m.a m.f.toNat ≤ s m.f.toNat ∨ HasSame hold m) := fun h => by rcases h with h | h | h <;> contradiction
        refine c_region ?_
        refine stp F (f_fieldAddr (r := ⟨g3, 1, none⟩) (sz := 5) rfl Tryd.underlying32 rfl Tryd.sizeOf30 rfl) rfl rfl rfl (fun ac F => ?_)
        refine stp F (f_loadN (vs := #[.int .i64 (s 0), .int .i64 (s 1), .int .i64 (s 2), .int .i64 (s 3), .int .i64 (s 4), .int .i64 (s 5)]) rfl Tryd.isAgg30 Tryd.sizeOf30 (hb5.rd (o := 1) rfl (by intro j u hu; exact part_at (ps := [.int .i64 (s 0), .int .i64 (s 1), .int .i64 (s 2), .int .i64 (s 3), .int .i64 (s 4), .int .i64 (s 5)]) (by rfl) (by simpa [Value.cells] using hu)))) rfl rfl rfl (fun ac F => ?_)
        refine stp F (f_loadN rfl Tryd.isAgg38 Tryd.sizeOf38 hb11.rdAll) rfl rfl rfl (fun ac F => ?_)
        refine stpC F (f_call (P := Tryd.prog) (f := 23) (vs := [.agg #[.int .i64 (s 0), .int .i64 (s 1), .int .i64 (s 2), .int .i64 (s 3), .int .i64 (s 4), .int .i64 (s 5)], .agg #[.int .i64 m.f, .int .i64 (m.a 0), .int .i64 (m.a 1), .int .i64 (m.a 2), .int .i64 (m.a 3), .int .i64 (m.a 4), .int .i64 (m.a 5), .string m.t]]) rfl Tryd.call23) (bool_d (rdy_c s m _ hs)) rfl rfl rfl ?_
        rintro _ w77 ac ⟨rfl, kq78⟩ F
        have hsz := (kq78).size
        replace hh := hh.keep (kq78) (by simp)
        replace hb5 := hb5.keep (kq78) (by simp)
        replace hb11 := hb11.keep (kq78) (by simp)
        replace hb17 := hb17.keep (kq78) (by simp)
        replace ho := ho.keep (kq78) (by simp)
        replace hb41 := hb41.keep (kq78) (by simp)
        replace kp0 := kp0.trans (kq78) (by simp)
        refine stp F (f_not rfl) rfl rfl rfl (fun ac F => ?_)
        refine stpEnd ?_
        refine H76 _ _ ?_
        by_cases hc79 : Rdy s m
        · have hc := hc79
          replace F := F.setb (k := 51) (b' := true) rfl (decide_eq_true hc)
          replace F := F.setb (k := 52) (b' := false) rfl (nt (decide_eq_true hc))
          clear hc
          refine c_false F rfl ?_
          refine wp_skip ?_
          refine H74 _ _ ?_
          refine c_seq (fun K80 H81 => ?_)
          have hRdy := hc79
          have hD0 : Drn s hold m := ⟨⟨hF, hb.1, hRdy⟩, hs, fun x hx => ⟨(hV.all x hx).1, hb.2 x hx, (hV.all x hx).2.2.1⟩, List.pairwise_cons.2 ⟨fun x hx h => hnn (.inr (.inr ⟨x, hx, h.1.symm, h.2.symm⟩)), hV.pair⟩⟩
          refine c_region ?_
          refine stp F (f_assign rfl) rfl rfl rfl (fun ac F => ?_)
          refine stpEnd ?_
          refine H81 _ _ ?_
          refine c_seq (fun K82 H83 => ?_)
          refine wp_block ?_
          have hNB := Nat.le_refl w77.heap.size
          have hrow : Own w77 w77.heap.size 38 8 none 0 (([] : List Ml).map mlV) := Own.nil _ _ _ _
          refine c_loop (fun mx ax wx => ∃ (s1 : Nat → Int), ∃ (hold1 : List Ml), ∃ (m1 : Ml), ∃ (out : List Ml), ∃ (B : Option Addr), ∃ (d : Nat), Fr ax 102 [(3, .pointer (some ⟨g9, 0, none⟩)), (4, .pointer (some ⟨g15, 0, none⟩)), (8, .pointer (some ⟨g39, 0, none⟩)), (9, .slice B out.length d)] ∧ Kp [] w0 wx ∧ Blk wx g15 32 ([.int .i64 0, .int .i64 0, .int .i64 0, .int .i64 0, .int .i64 0, .int .i64 0, .int .i64 0, .slice none 0 0]) ∧ Blk wx g39 32 ([.int .i64 me, .int .i64 (s1 0), .int .i64 (s1 1), .int .i64 (s1 2), .int .i64 (s1 3), .int .i64 (s1 4), .int .i64 (s1 5), .slice A2 hold1.length c2]) ∧ Blk wx g9 38 ([.int .i64 m1.f, .int .i64 (m1.a 0), .int .i64 (m1.a 1), .int .i64 (m1.a 2), .int .i64 (m1.a 3), .int .i64 (m1.a 4), .int .i64 (m1.a 5), .string m1.t]) ∧ Own wx w33.heap.size 38 8 A2 c2 (hold1.map mlV) ∧ Own wx w77.heap.size 38 8 B d (out.map mlV) ∧ w77.heap.size ≤ wx.heap.size ∧ (Drn s1 hold1 m1) ∧ (out.length + hold1.length ≤ 40) ∧ (drainN hold.length s hold m = ((drainN hold1.length s1 hold1 m1).1, (drainN hold1.length s1 hold1 m1).2.1, out ++ (drainN hold1.length s1 hold1 m1).2.2)) ∧ mx = hold1.length) (hold.length) ?_ ?_
          · exact ⟨s, hold, m, [], none, 0, F.sub ⟨rfl, rfl, rfl, rfl, trivial⟩, kp0, hb17, hb41, hb11, ho, hrow, hNB, hD0, by simp; omega, rfl, rfl⟩
          · clear F kp0 hh hb5 hb11 hb17 ho hb41
            rintro m85 ac wl84 ⟨s1, hold1, m1, out, B, d, F, kp0, hb17, hb41, hb11, ho, hrow, hNB, hD, hln, hdr, hm⟩
            have hsz := kp0.size
            have lt_hb17 := hb17.lt
            have lt_hb41 := hb41.lt
            have lt_hb11 := hb11.lt
            have hrg1 := hD.rng
            have htop := hD.top
            have hs1 := hD.hs
            have hsm := hs1 m1.f.toNat (by omega)
            refine wp_block ?_
            refine c_seq (fun K86 H87 => ?_)
            refine c_region ?_
            refine stp F (f_fieldAddr (r := ⟨g9, 0, none⟩) (sz := 0) rfl Tryd.underlying38 rfl Tryd.sizeOf3 rfl) rfl rfl rfl (fun ac F => ?_)
            refine stp F (f_load1 (v := .int .i64 m1.f) rfl Tryd.isAgg3 ((hb11.cell 0).trans rfl)) rfl rfl rfl (fun ac F => ?_)
            refine stp F (f_fieldAddr (r := ⟨g39, 1, none⟩) (sz := 5) rfl Tryd.underlying32 rfl Tryd.sizeOf30 rfl) rfl rfl rfl (fun ac F => ?_)
            refine stp F (f_indexA (r := ⟨g39, 1 + m1.f.toNat * 1, none⟩) rfl rfl Tryd.underlying30 Tryd.sizeOf3 (by omega) (by omega) (add_eq (by omega))) rfl rfl rfl (fun ac F => ?_)
            refine stp F (f_load1 (v := .int .i64 (s1 m1.f.toNat)) rfl Tryd.isAgg3 ((hb41.cell _).trans (six (o := 1) (q := 1 + m1.f.toNat * 1) (f := fun i_ => .int .i64 (s1 i_)) rfl rfl rfl rfl rfl rfl (j := m1.f.toNat) (by omega) (by omega)))) rfl rfl rfl (fun ac F => ?_)
            refine stp F (f_add (r := (s1 m1.f.toNat) + 1) rfl rfl (by rw [IntKind.wrap_i64]; omega)) rfl rfl rfl (fun ac F => ?_)
            refine stp F (f_fieldAddr (r := ⟨g39, 1, none⟩) (sz := 5) rfl Tryd.underlying32 rfl Tryd.sizeOf30 rfl) rfl rfl rfl (fun ac F => ?_)
            refine stp F (f_indexA (r := ⟨g39, 1 + m1.f.toNat * 1, none⟩) rfl rfl Tryd.underlying30 Tryd.sizeOf3 (by omega) (by omega) (add_eq (by omega))) rfl rfl rfl (fun ac F => ?_)
            refine stpW F (f_store (v := .int .i64 ((s1 m1.f.toNat) + 1)) (vs := [.int .i64 ((s1 m1.f.toNat) + 1)]) rfl rfl hb41 Tryd.sizeOf3 rfl rfl (by simp; omega) (by simp [plainV])) rfl rfl ?_
            rintro w88 ac wr89 F
            have z90 := wr89.size
            have hsz := (wr89.kp).size
            replace hb17 := hb17.keep (wr89.kp) (by have := hb17.lt; simp; omega)
            replace hb11 := hb11.keep (wr89.kp) (by have := hb11.lt; simp; omega)
            replace ho := ho.keep (wr89.kp) (by intro x hx hm; have h1 := ho.base_le x hx; (try have h2 := hob0 x hx); (try have h3 := hob1 x hx); simp at hm; omega)
            replace hrow := hrow.keep (wr89.kp) (by intro x hx hm; have h1 := hrow.base_le x hx; (try have h2 := hob0 x hx); (try have h3 := hob1 x hx); simp at hm; omega)
            replace hNB := Nat.le_trans hNB ((wr89.kp)).size
            replace kp0 := kp0.trans (wr89.kp) (by intro x hx hl; simp at hx; omega)
            replace hb41 : Blk w88 g39 32 ([.int .i64 me, .int .i64 ((upd s1 m1.f.toNat ((s1 m1.f.toNat) + 1)) 0), .int .i64 ((upd s1 m1.f.toNat ((s1 m1.f.toNat) + 1)) 1), .int .i64 ((upd s1 m1.f.toNat ((s1 m1.f.toNat) + 1)) 2), .int .i64 ((upd s1 m1.f.toNat ((s1 m1.f.toNat) + 1)) 3), .int .i64 ((upd s1 m1.f.toNat ((s1 m1.f.toNat) + 1)) 4), .int .i64 ((upd s1 m1.f.toNat ((s1 m1.f.toNat) + 1)) 5), .slice A2 hold1.length c2]) := (by have hx_ := wr89.blk; rw [csC_put (me := me) (s := s1) (A := A2) (n := hold1.length) (c := c2) (j := m1.f.toNat) (by omega) (by omega)] at hx_; exact hx_)
            refine stpEnd ?_
            refine H87 _ _ ?_
            refine c_seq (fun K91 H92 => ?_)
            refine c_region ?_
            refine stp F (f_move rfl) rfl rfl rfl (fun ac F => ?_)
            refine stp F (f_loadN rfl Tryd.isAgg38 Tryd.sizeOf38 hb11.rdAll) rfl rfl rfl (fun ac F => ?_)
            refine stpE F (f_buildSlice (el := 38) (vs := [(0, .agg #[.int .i64 m1.f, .int .i64 (m1.a 0), .int .i64 (m1.a 1), .int .i64 (m1.a 2), .int .i64 (m1.a 3), .int .i64 (m1.a 4), .int .i64 (m1.a 5), .string m1.t])]) (cs := [.int .i64 m1.f, .int .i64 (m1.a 0), .int .i64 (m1.a 1), .int .i64 (m1.a 2), .int .i64 (m1.a 3), .int .i64 (m1.a 4), .int .i64 (m1.a 5), .string m1.t]) rfl (fun w => by kernel_rfl)) rfl rfl rfl ?_
            rintro _ w94 ac ⟨g93, rfl, nb95⟩ F
            have n97 := nb95.num
            have z98 := nb95.size
            have hsz := (nb95.kp).size
            replace hb17 := hb17.keep (nb95.kp) (by simp)
            replace hb41 := hb41.keep (nb95.kp) (by simp)
            replace hb11 := hb11.keep (nb95.kp) (by simp)
            replace ho := ho.keep (nb95.kp) (by simp)
            replace hrow := hrow.keep (nb95.kp) (by simp)
            replace hNB := Nat.le_trans hNB ((nb95.kp)).size
            replace kp0 := kp0.trans (nb95.kp) (by simp)
            have hb96 : Blk w94 g93 38 ([.int .i64 m1.f, .int .i64 (m1.a 0), .int .i64 (m1.a 1), .int .i64 (m1.a 2), .int .i64 (m1.a 3), .int .i64 (m1.a 4), .int .i64 (m1.a 5), .string m1.t]) := nb95.blk
            have hob := hrow.base_le
            refine stpE F (f_append1k (v := .agg #[.int .i64 m1.f, .int .i64 (m1.a 0), .int .i64 (m1.a 1), .int .i64 (m1.a 2), .int .i64 (m1.a 3), .int .i64 (m1.a 4), .int .i64 (m1.a 5), .string m1.t]) (vs := out.map mlV) (bytes := 72) rfl (by simp) rfl Tryd.underlying28 (i := Tryd.t38) (by kernel_rfl) rfl rfl rfl rfl (by decide) hrow hb96 rfl (by simp [Value.cells, Value.oneCell']) (by omega) (by omega) (by omega)) rfl rfl rfl ?_
            rintro _ w101 ac ⟨A99, c100, rfl, hap102, kq103, hbl⟩ F
            have z104 := kq103.size
            have hsz := (kq103).size
            replace hb17 := hb17.keep (kq103) (by intro hx; have h1 := hrow.base_le _ hx; (try have h2 := hob0 _ hx); omega)
            replace hb41 := hb41.keep (kq103) (by intro hx; have h1 := hrow.base_le _ hx; (try have h2 := hob0 _ hx); omega)
            replace hb11 := hb11.keep (kq103) (by intro hx; have h1 := hrow.base_le _ hx; (try have h2 := hob0 _ hx); omega)
            replace ho := ho.keep (kq103) (by intro x hx hm; have h1 := hob x hm; have h2 := hob0 x hx; omega)
            replace hNB := Nat.le_trans hNB ((kq103)).size
            replace kp0 := kp0.trans (kq103) (by intro x hx hl; have := hrow.base_le x hx; omega)
            replace hrow : Own w101 w77.heap.size 38 8 A99 c100 (out.map mlV ++ [.agg #[.int .i64 m1.f, .int .i64 (m1.a 0), .int .i64 (m1.a 1), .int .i64 (m1.a 2), .int .i64 (m1.a 3), .int .i64 (m1.a 4), .int .i64 (m1.a 5), .string m1.t]]) := hap102
            obtain ⟨B2, hB2⟩ : ∃ B2, B2 = A99 := ⟨_, rfl⟩
            obtain ⟨d2, hd2⟩ : ∃ d2, d2 = c100 := ⟨_, rfl⟩
            replace hrow : Own w101 w77.heap.size 38 8 B2 d2 ((out ++ [m1]).map mlV) := by rw [hB2, hd2]; simpa using hrow
            replace F := F.setv (k := 76) (v' := .slice B2 ((out ++ [m1]).length) d2) rfl (by rw [hB2, hd2]; simp)
            refine stp F (f_assign rfl) rfl rfl rfl (fun ac F => ?_)
            refine stpEnd ?_
            refine H92 _ _ ?_
            refine c_seq (fun K105 H106 => ?_)
            have hbm := hD.bumped
            refine c_region ?_
            refine stp F (f_fieldAddr (r := ⟨g39, 7, none⟩) (sz := 0) rfl Tryd.underlying32 rfl Tryd.sizeOf28 rfl) rfl rfl rfl (fun ac F => ?_)
            refine stp F (f_load1 (v := .slice A2 hold1.length c2) rfl Tryd.isAgg28 ((hb41.cell 7).trans rfl)) rfl rfl rfl (fun ac F => ?_)
            refine stp F (f_makeFunc (vs := []) (us := [.pointer (some ⟨g39, 0, none⟩)]) rfl rfl) rfl rfl rfl (fun ac F => ?_)
            refine stpC F (f_call (P := Tryd.prog) (f := 24) (vs := [.slice A2 hold1.length c2, .func (.func 25) #[] #[.pointer (some ⟨g39, 0, none⟩)]]) rfl Tryd.call24) (ixm_c A2 hold1.length c2 25 _ _ #[.pointer (some ⟨g39, 0, none⟩)] (fun i => Rdy (bump s1 m1) (hold1.getD i default)) hold1 _ ho.msl Tryd.call25 (fun W i hk hi => hear2_c g39 _ _ _ me (bump s1 m1) (hold1.getD i default) W (hb41.keep hk (by simp)) hbm) (by omega)) rfl rfl rfl ?_
            rintro _ w107 ac ⟨r, rfl, kq108, hr⟩ F
            have hsz := (kq108).size
            replace hb17 := hb17.keep (kq108) (by simp)
            replace hb41 := hb41.keep (kq108) (by simp)
            replace hb11 := hb11.keep (kq108) (by simp)
            replace ho := ho.keep (kq108) (by simp)
            replace hrow := hrow.keep (kq108) (by simp)
            replace hNB := Nat.le_trans hNB ((kq108)).size
            replace kp0 := kp0.trans (kq108) (by simp)
            refine stp F (f_assign rfl) rfl rfl rfl (fun ac F => ?_)
            refine stpEnd ?_
            refine H106 _ _ ?_
            refine c_seq (fun K109 H110 => ?_)
            refine c_seq (fun K111 H112 => ?_)
            refine c_region ?_
            refine stp F (f_move rfl) rfl rfl rfl (fun ac F => ?_)
            refine stp F (f_lss rfl rfl) rfl rfl rfl (fun ac F => ?_)
            refine stpEnd ?_
            refine H112 _ _ ?_
            by_cases hc113 : r < 0
            · have hc := hc113
              replace F := F.setb (k := 82) (b' := true) rfl (decide_eq_true hc)
              clear hc
              refine c_true F rfl ?_
              refine wp_exit ?_
              refine H83 _ _ ?_
              refine c_seq (fun K114 H115 => ?_)
              refine c_region ?_
              refine stp F (f_fieldAddr (r := ⟨g39, 7, none⟩) (sz := 0) rfl Tryd.underlying32 rfl Tryd.sizeOf28 rfl) rfl rfl rfl (fun ac F => ?_)
              refine stp F (f_load1 (v := .slice A2 hold1.length c2) rfl Tryd.isAgg28 ((hb41.cell 7).trans rfl)) rfl rfl rfl (fun ac F => ?_)
              refine stp F (f_makeFunc (vs := []) (us := [.pointer (some ⟨g39, 0, none⟩)]) rfl rfl) rfl rfl rfl (fun ac F => ?_)
              refine stpC F (f_call (P := Tryd.prog) (f := 27) (vs := [.slice A2 hold1.length c2, .func (.func 28) #[] #[.pointer (some ⟨g39, 0, none⟩)]]) rfl Tryd.call27) (delf_c A2 hold1.length c2 28 _ _ #[.pointer (some ⟨g39, 0, none⟩)] (fun i => (hold1.getD i default).a (hold1.getD i default).f.toNat ≤ (bump s1 m1) (hold1.getD i default).f.toNat) hold1 _ ho.msl Tryd.call28 (fun W i hk hi => hear3_c g39 _ _ _ me (bump s1 m1) (hold1.getD i default) W (hb41.keep hk (by simp)) ⟨(hD.all _ (getD_in hi)).1.1, (hD.all _ (getD_in hi)).1.2.1⟩) (by omega) (fun i hi => Int.not_le.2 (hD.above _ (getD_in hi)))) rfl rfl rfl ?_
              rintro _ w116 ac ⟨rfl, kq117⟩ F
              have hsz := (kq117).size
              replace hb17 := hb17.keep (kq117) (by simp)
              replace hb41 := hb41.keep (kq117) (by simp)
              replace hb11 := hb11.keep (kq117) (by simp)
              replace ho := ho.keep (kq117) (by simp)
              replace hrow := hrow.keep (kq117) (by simp)
              replace hNB := Nat.le_trans hNB ((kq117)).size
              replace kp0 := kp0.trans (kq117) (by simp)
              refine stp F (f_fieldAddr (r := ⟨g39, 7, none⟩) (sz := 0) rfl Tryd.underlying32 rfl Tryd.sizeOf28 rfl) rfl rfl rfl (fun ac F => ?_)
              refine stpW F (f_store (v := .slice A2 hold1.length c2) (vs := [.slice A2 hold1.length c2]) rfl rfl hb41 Tryd.sizeOf28 rfl rfl (by simp) (by simp [plainV])) rfl rfl ?_
              rintro w118 ac wr119 F
              have z120 := wr119.size
              have hsz := (wr119.kp).size
              replace hb17 := hb17.keep (wr119.kp) (by have := hb17.lt; simp; omega)
              replace hb11 := hb11.keep (wr119.kp) (by have := hb11.lt; simp; omega)
              replace ho := ho.keep (wr119.kp) (by intro x hx hm; have h1 := ho.base_le x hx; (try have h2 := hob0 x hx); (try have h3 := hob1 x hx); simp at hm; omega)
              replace hrow := hrow.keep (wr119.kp) (by intro x hx hm; have h1 := hrow.base_le x hx; (try have h2 := hob0 x hx); (try have h3 := hob1 x hx); simp at hm; omega)
              replace hNB := Nat.le_trans hNB ((wr119.kp)).size
              replace kp0 := kp0.trans (wr119.kp) (by intro x hx hl; simp at hx; omega)
              replace hb41 : Blk w118 g39 32 ([.int .i64 me, .int .i64 ((upd s1 m1.f.toNat ((s1 m1.f.toNat) + 1)) 0), .int .i64 ((upd s1 m1.f.toNat ((s1 m1.f.toNat) + 1)) 1), .int .i64 ((upd s1 m1.f.toNat ((s1 m1.f.toNat) + 1)) 2), .int .i64 ((upd s1 m1.f.toNat ((s1 m1.f.toNat) + 1)) 3), .int .i64 ((upd s1 m1.f.toNat ((s1 m1.f.toNat) + 1)) 4), .int .i64 ((upd s1 m1.f.toNat ((s1 m1.f.toNat) + 1)) 5), .slice A2 hold1.length c2]) := wr119.blk
              refine stpEnd ?_
              refine H115 _ _ ?_
              refine c_seq (fun K121 H122 => ?_)
              refine c_region ?_
              refine stp F (f_loadN rfl Tryd.isAgg32 Tryd.sizeOf32 hb41.rdAll) rfl rfl rfl (fun ac F => ?_)
              refine stp F (f_move rfl) rfl rfl rfl (fun ac F => ?_)
              refine stpW F (f_store (v := .agg #[.int .i64 me, .int .i64 ((upd s1 m1.f.toNat ((s1 m1.f.toNat) + 1)) 0), .int .i64 ((upd s1 m1.f.toNat ((s1 m1.f.toNat) + 1)) 1), .int .i64 ((upd s1 m1.f.toNat ((s1 m1.f.toNat) + 1)) 2), .int .i64 ((upd s1 m1.f.toNat ((s1 m1.f.toNat) + 1)) 3), .int .i64 ((upd s1 m1.f.toNat ((s1 m1.f.toNat) + 1)) 4), .int .i64 ((upd s1 m1.f.toNat ((s1 m1.f.toNat) + 1)) 5), .slice A2 hold1.length c2]) (vs := [.int .i64 me, .int .i64 ((upd s1 m1.f.toNat ((s1 m1.f.toNat) + 1)) 0), .int .i64 ((upd s1 m1.f.toNat ((s1 m1.f.toNat) + 1)) 1), .int .i64 ((upd s1 m1.f.toNat ((s1 m1.f.toNat) + 1)) 2), .int .i64 ((upd s1 m1.f.toNat ((s1 m1.f.toNat) + 1)) 3), .int .i64 ((upd s1 m1.f.toNat ((s1 m1.f.toNat) + 1)) 4), .int .i64 ((upd s1 m1.f.toNat ((s1 m1.f.toNat) + 1)) 5), .slice A2 hold1.length c2]) rfl rfl hb17 Tryd.sizeOf32 rfl rfl (by simp) (by simp [plainV])) rfl rfl ?_
              rintro w123 ac wr124 F
              have z125 := wr124.size
              have hsz := (wr124.kp).size
              replace hb41 := hb41.keep (wr124.kp) (by have := hb41.lt; simp; omega)
              replace hb11 := hb11.keep (wr124.kp) (by have := hb11.lt; simp; omega)
              replace ho := ho.keep (wr124.kp) (by intro x hx hm; have h1 := ho.base_le x hx; (try have h2 := hob0 x hx); (try have h3 := hob1 x hx); simp at hm; omega)
              replace hrow := hrow.keep (wr124.kp) (by intro x hx hm; have h1 := hrow.base_le x hx; (try have h2 := hob0 x hx); (try have h3 := hob1 x hx); simp at hm; omega)
              replace hNB := Nat.le_trans hNB ((wr124.kp)).size
              replace kp0 := kp0.trans (wr124.kp) (by intro x hx hl; simp at hx; omega)
              replace hb17 : Blk w123 g15 32 ([.int .i64 me, .int .i64 ((upd s1 m1.f.toNat ((s1 m1.f.toNat) + 1)) 0), .int .i64 ((upd s1 m1.f.toNat ((s1 m1.f.toNat) + 1)) 1), .int .i64 ((upd s1 m1.f.toNat ((s1 m1.f.toNat) + 1)) 2), .int .i64 ((upd s1 m1.f.toNat ((s1 m1.f.toNat) + 1)) 3), .int .i64 ((upd s1 m1.f.toNat ((s1 m1.f.toNat) + 1)) 4), .int .i64 ((upd s1 m1.f.toNat ((s1 m1.f.toNat) + 1)) 5), .slice A2 hold1.length c2]) := wr124.blk
              refine stp F (f_assign rfl) rfl rfl rfl (fun ac F => ?_)
              refine stp F (f_assign rfl) rfl rfl rfl (fun ac F => ?_)
              refine stpEnd ?_
              refine H122 _ _ ?_
              refine wp_ret ?_
              refine retR3 F rfl ⟨_, rfl, run_loadVarN Tryd.isAgg32 Tryd.sizeOf32 hb17.rdAll⟩ rfl rfl ?_
              have hst := drain_stop (n := hold1.length) (fun i hi hR => (by rcases hr with ⟨_, h⟩ | ⟨k, _, h, _⟩; exact h i hi hR; omega) : ∀ i, i < hold1.length → ¬ Rdy (bump s1 m1) (hold1.getD i default))
              rw [hearN, if_neg hnn, if_neg (fun h => h hRdy), hdr, hst]
              exact ⟨A2, c2, B2, d2, rfl, kp0, ho.more (by omega), hrow.more (by omega)⟩
            · have hc := hc113
              replace F := F.setb (k := 82) (b' := false) rfl (decide_eq_false hc)
              clear hc
              refine c_false F rfl ?_
              refine wp_skip ?_
              refine H110 _ _ ?_
              refine c_seq (fun K126 H127 => ?_)
              obtain ⟨k, hkk, hrk, hRk, hmin⟩ : ∃ k, k < hold1.length ∧ r = (k : Int) ∧ Rdy (bump s1 m1) (hold1.getD k default) ∧ ∀ i, i < k → ¬ Rdy (bump s1 m1) (hold1.getD i default) := by rcases hr with ⟨h, _⟩ | h; omega; exact h
              subst hrk
              have hsl := ho.msl
              refine c_region ?_
              refine stp F (f_fieldAddr (r := ⟨g39, 7, none⟩) (sz := 0) rfl Tryd.underlying32 rfl Tryd.sizeOf28 rfl) rfl rfl rfl (fun ac F => ?_)
              refine stp F (f_load1 (v := .slice A2 hold1.length c2) rfl Tryd.isAgg28 ((hb41.cell 7).trans rfl)) rfl rfl rfl (fun ac F => ?_)
              refine stp F (f_move rfl) rfl rfl rfl (fun ac F => ?_)
              refine stp F (f_indexS (r := ((adr A2).add (k * 8))) rfl rfl Tryd.underlying28 Tryd.sizeOf38 (by omega) (by omega) (hsl.some_ (by omega)).1 (by rw [show Int.toNat (k : Int) = k from by omega])) rfl rfl rfl (fun ac F => ?_)
              refine stp F (f_loadN rfl Tryd.isAgg38 Tryd.sizeOf38 (hsl.rd (i := k) (by omega) rfl)) rfl rfl rfl (fun ac F => ?_)
              refine stpW F (f_store (v := .agg #[.int .i64 ((hold1.getD k default).f), .int .i64 ((hold1.getD k default).a 0), .int .i64 ((hold1.getD k default).a 1), .int .i64 ((hold1.getD k default).a 2), .int .i64 ((hold1.getD k default).a 3), .int .i64 ((hold1.getD k default).a 4), .int .i64 ((hold1.getD k default).a 5), .string ((hold1.getD k default).t)]) (vs := [.int .i64 ((hold1.getD k default).f), .int .i64 ((hold1.getD k default).a 0), .int .i64 ((hold1.getD k default).a 1), .int .i64 ((hold1.getD k default).a 2), .int .i64 ((hold1.getD k default).a 3), .int .i64 ((hold1.getD k default).a 4), .int .i64 ((hold1.getD k default).a 5), .string ((hold1.getD k default).t)]) rfl rfl hb11 Tryd.sizeOf38 rfl rfl (by simp) (by simp [plainV])) rfl rfl ?_
              rintro w128 ac wr129 F
              have z130 := wr129.size
              have hsz := (wr129.kp).size
              replace hb17 := hb17.keep (wr129.kp) (by have := hb17.lt; simp; omega)
              replace hb41 := hb41.keep (wr129.kp) (by have := hb41.lt; simp; omega)
              replace ho := ho.keep (wr129.kp) (by intro x hx hm; have h1 := ho.base_le x hx; (try have h2 := hob0 x hx); (try have h3 := hob1 x hx); simp at hm; omega)
              replace hrow := hrow.keep (wr129.kp) (by intro x hx hm; have h1 := hrow.base_le x hx; (try have h2 := hob0 x hx); (try have h3 := hob1 x hx); simp at hm; omega)
              replace hNB := Nat.le_trans hNB ((wr129.kp)).size
              replace hsl := hsl.keep (wr129.kp) (by intro x hx; simp at hx; omega)
              replace kp0 := kp0.trans (wr129.kp) (by intro x hx hl; simp at hx; omega)
              replace hb11 : Blk w128 g9 38 ([.int .i64 ((hold1.getD k default).f), .int .i64 ((hold1.getD k default).a 0), .int .i64 ((hold1.getD k default).a 1), .int .i64 ((hold1.getD k default).a 2), .int .i64 ((hold1.getD k default).a 3), .int .i64 ((hold1.getD k default).a 4), .int .i64 ((hold1.getD k default).a 5), .string ((hold1.getD k default).t)]) := wr129.blk
              refine stpEnd ?_
              clear hsl
              refine H127 _ _ ?_
              refine c_region ?_
              refine stp F (f_fieldAddr (r := ⟨g39, 7, none⟩) (sz := 0) rfl Tryd.underlying32 rfl Tryd.sizeOf28 rfl) rfl rfl rfl (fun ac F => ?_)
              refine stp F (f_load1 (v := .slice A2 hold1.length c2) rfl Tryd.isAgg28 ((hb41.cell 7).trans rfl)) rfl rfl rfl (fun ac F => ?_)
              refine stp F (f_move rfl) rfl rfl rfl (fun ac F => ?_)
              refine stp F (f_move rfl) rfl rfl rfl (fun ac F => ?_)
              refine stp F (f_add (r := ((k + 1 : Nat) : Int)) rfl rfl (by rw [IntKind.wrap_i64]; omega)) rfl rfl rfl (fun ac F => ?_)
              have hob := ho.base_le
              refine stpC F (f_call (P := Tryd.prog) (f := 26) (vs := [.slice A2 hold1.length c2, .int .i64 (k : Int), .int .i64 ((k + 1 : Nat) : Int)]) rfl Tryd.call26) (del_c A2 c2 k w33.heap.size hold1 _ ho hkk (by omega)) rfl rfl rfl ?_
              rintro _ w131 ac ⟨rfl, ho2, kq132⟩ F
              have hsz := (kq132).size
              replace hb17 := hb17.keep (kq132) (by intro hx; have h1 := ho.base_le _ hx; (try have h2 := hob0 _ hx); omega)
              replace hb41 := hb41.keep (kq132) (by intro hx; have h1 := ho.base_le _ hx; (try have h2 := hob0 _ hx); omega)
              replace hb11 := hb11.keep (kq132) (by intro hx; have h1 := ho.base_le _ hx; (try have h2 := hob0 _ hx); omega)
              replace hrow := hrow.keep (kq132) (by intro x hx hm; have h1 := hrow.base_le x hx; have h2 := hob0 x hm; omega)
              replace hNB := Nat.le_trans hNB ((kq132)).size
              replace kp0 := kp0.trans (kq132) (by intro x hx hl; have := ho.base_le x hx; omega)
              replace ho := ho2
              refine stp F (f_fieldAddr (r := ⟨g39, 7, none⟩) (sz := 0) rfl Tryd.underlying32 rfl Tryd.sizeOf28 rfl) rfl rfl rfl (fun ac F => ?_)
              refine stpW F (f_store (v := .slice A2 ((hold1.eraseIdx k).length) c2) (vs := [.slice A2 ((hold1.eraseIdx k).length) c2]) rfl rfl hb41 Tryd.sizeOf28 rfl rfl (by simp) (by simp [plainV])) rfl rfl ?_
              rintro w133 ac wr134 F
              have z135 := wr134.size
              have hsz := (wr134.kp).size
              replace hb17 := hb17.keep (wr134.kp) (by have := hb17.lt; simp; omega)
              replace hb11 := hb11.keep (wr134.kp) (by have := hb11.lt; simp; omega)
              replace ho := ho.keep (wr134.kp) (by intro x hx hm; have h1 := ho.base_le x hx; (try have h2 := hob0 x hx); (try have h3 := hob1 x hx); simp at hm; omega)
              replace hrow := hrow.keep (wr134.kp) (by intro x hx hm; have h1 := hrow.base_le x hx; (try have h2 := hob0 x hx); (try have h3 := hob1 x hx); simp at hm; omega)
              replace hNB := Nat.le_trans hNB ((wr134.kp)).size
              replace kp0 := kp0.trans (wr134.kp) (by intro x hx hl; simp at hx; omega)
              replace hb41 : Blk w133 g39 32 ([.int .i64 me, .int .i64 ((upd s1 m1.f.toNat ((s1 m1.f.toNat) + 1)) 0), .int .i64 ((upd s1 m1.f.toNat ((s1 m1.f.toNat) + 1)) 1), .int .i64 ((upd s1 m1.f.toNat ((s1 m1.f.toNat) + 1)) 2), .int .i64 ((upd s1 m1.f.toNat ((s1 m1.f.toNat) + 1)) 3), .int .i64 ((upd s1 m1.f.toNat ((s1 m1.f.toNat) + 1)) 4), .int .i64 ((upd s1 m1.f.toNat ((s1 m1.f.toNat) + 1)) 5), .slice A2 ((hold1.eraseIdx k).length) c2]) := wr134.blk
              refine stpEnd ?_
              have hek := List.length_eraseIdx_of_lt hkk
              refine ⟨(hold1.eraseIdx k).length, ?_, bump s1 m1, (hold1.eraseIdx k), (hold1.getD k default), (out ++ [m1]), B2, d2, F.sub ⟨rfl, rfl, rfl, rfl, trivial⟩, kp0, hb17, hb41, hb11, ho, hrow, hNB, hD.go hkk hRk, by have := List.length_eraseIdx_of_lt hkk; simp; omega, by rw [hdr, drain_go hkk hRk hmin]; simp, rfl⟩
              omega
        · have hc := hc79
          replace F := F.setb (k := 51) (b' := false) rfl (decide_eq_false hc)
          replace F := F.setb (k := 52) (b' := true) rfl (nf (decide_eq_false hc))
          clear hc
          refine c_true F rfl ?_
          refine c_seq (fun K136 H137 => ?_)
          refine c_seq (fun K138 H139 => ?_)
          have hnr := hc79
          refine c_region ?_
          refine stp F (f_fieldAddr (r := ⟨g3, 7, none⟩) (sz := 0) rfl Tryd.underlying32 rfl Tryd.sizeOf28 rfl) rfl rfl rfl (fun ac F => ?_)
          refine stp F (f_load1 (v := .slice A hold.length c) rfl Tryd.isAgg28 ((hb5.cell 7).trans rfl)) rfl rfl rfl (fun ac F => ?_)
          refine stp F (f_len rfl Tryd.underlying28) rfl rfl rfl (fun ac F => ?_)
          refine stp F (f_eql rfl rfl) rfl rfl rfl (fun ac F => ?_)
          refine stpEnd ?_
          refine H139 _ _ ?_
          by_cases hc140 : ((hold.length : Nat) : Int) = 40
          · have hc := hc140
            replace F := F.setb (k := 56) (b' := true) rfl (decide_eq_true hc)
            clear hc
            refine c_true F rfl ?_
            refine c_seq (fun K141 H142 => ?_)
            refine c_region ?_
            refine stp F (f_build (vs := []) (v := .agg #[.int .i64 0, .int .i64 0, .int .i64 0, .int .i64 0, .int .i64 0, .int .i64 0, .int .i64 0, .slice none 0 0]) rfl (fun w => by kernel_rfl)) rfl rfl rfl (fun ac F => ?_)
            refine stpW F (f_store (v := .agg #[.int .i64 0, .int .i64 0, .int .i64 0, .int .i64 0, .int .i64 0, .int .i64 0, .int .i64 0, .slice none 0 0]) (vs := [.int .i64 0, .int .i64 0, .int .i64 0, .int .i64 0, .int .i64 0, .int .i64 0, .int .i64 0, .slice none 0 0]) rfl rfl hb17 Tryd.sizeOf32 rfl rfl (by simp) (by simp [plainV])) rfl rfl ?_
            rintro w143 ac wr144 F
            have z145 := wr144.size
            have hsz := (wr144.kp).size
            replace hh := hh.keep (wr144.kp) (by intro x hx; simp at hx; omega)
            replace hb5 := hb5.keep (wr144.kp) (by have := hb5.lt; simp; omega)
            replace hb11 := hb11.keep (wr144.kp) (by have := hb11.lt; simp; omega)
            replace ho := ho.keep (wr144.kp) (by intro x hx hm; have h1 := ho.base_le x hx; (try have h2 := hob0 x hx); (try have h3 := hob1 x hx); simp at hm; omega)
            replace hb41 := hb41.keep (wr144.kp) (by have := hb41.lt; simp; omega)
            replace kp0 := kp0.trans (wr144.kp) (by intro x hx hl; simp at hx; omega)
            replace hb17 : Blk w143 g15 32 ([.int .i64 0, .int .i64 0, .int .i64 0, .int .i64 0, .int .i64 0, .int .i64 0, .int .i64 0, .slice none 0 0]) := wr144.blk
            refine stp F (f_assign rfl) rfl rfl rfl (fun ac F => ?_)
            refine stp F (f_assign rfl) rfl rfl rfl (fun ac F => ?_)
            refine stpEnd ?_
            refine H142 _ _ ?_
            refine wp_ret ?_
            refine retR3 F rfl ⟨_, rfl, run_loadVarN Tryd.isAgg32 Tryd.sizeOf32 hb17.rdAll⟩ rfl rfl ?_
            rw [hearN, if_neg hnn, if_pos hnr, if_pos (by omega)]
            exact ⟨kp0, rfl⟩
          · have hc := hc140
            replace F := F.setb (k := 56) (b' := false) rfl (decide_eq_false hc)
            clear hc
            refine c_false F rfl ?_
            refine wp_skip ?_
            refine H137 _ _ ?_
            refine c_seq (fun K146 H147 => ?_)
            refine c_region ?_
            refine stp F (f_fieldAddr (r := ⟨g39, 7, none⟩) (sz := 0) rfl Tryd.underlying32 rfl Tryd.sizeOf28 rfl) rfl rfl rfl (fun ac F => ?_)
            refine stp F (f_load1 (v := .slice A2 hold.length c2) rfl Tryd.isAgg28 ((hb41.cell 7).trans rfl)) rfl rfl rfl (fun ac F => ?_)
            refine stp F (f_loadN rfl Tryd.isAgg38 Tryd.sizeOf38 hb11.rdAll) rfl rfl rfl (fun ac F => ?_)
            refine stpE F (f_buildSlice (el := 38) (vs := [(0, .agg #[.int .i64 m.f, .int .i64 (m.a 0), .int .i64 (m.a 1), .int .i64 (m.a 2), .int .i64 (m.a 3), .int .i64 (m.a 4), .int .i64 (m.a 5), .string m.t])]) (cs := [.int .i64 m.f, .int .i64 (m.a 0), .int .i64 (m.a 1), .int .i64 (m.a 2), .int .i64 (m.a 3), .int .i64 (m.a 4), .int .i64 (m.a 5), .string m.t]) rfl (fun w => by kernel_rfl)) rfl rfl rfl ?_
            rintro _ w149 ac ⟨g148, rfl, nb150⟩ F
            have n152 := nb150.num
            have z153 := nb150.size
            have hsz := (nb150.kp).size
            replace hh := hh.keep (nb150.kp) (by simp)
            replace hb5 := hb5.keep (nb150.kp) (by simp)
            replace hb11 := hb11.keep (nb150.kp) (by simp)
            replace hb17 := hb17.keep (nb150.kp) (by simp)
            replace ho := ho.keep (nb150.kp) (by simp)
            replace hb41 := hb41.keep (nb150.kp) (by simp)
            replace kp0 := kp0.trans (nb150.kp) (by simp)
            have hb151 : Blk w149 g148 38 ([.int .i64 m.f, .int .i64 (m.a 0), .int .i64 (m.a 1), .int .i64 (m.a 2), .int .i64 (m.a 3), .int .i64 (m.a 4), .int .i64 (m.a 5), .string m.t]) := nb150.blk
            have hob := ho.base_le
            refine stpE F (f_append1k (v := .agg #[.int .i64 m.f, .int .i64 (m.a 0), .int .i64 (m.a 1), .int .i64 (m.a 2), .int .i64 (m.a 3), .int .i64 (m.a 4), .int .i64 (m.a 5), .string m.t]) (vs := hold.map mlV) (bytes := 72) rfl (by simp) rfl Tryd.underlying28 (i := Tryd.t38) (by kernel_rfl) rfl rfl rfl rfl (by decide) ho hb151 rfl (by simp [Value.cells, Value.oneCell']) (by omega) (by omega) (by omega)) rfl rfl rfl ?_
            rintro _ w156 ac ⟨A154, c155, rfl, hap157, kq158, hbl⟩ F
            have z159 := kq158.size
            have hsz := (kq158).size
            replace hh := hh.keep (kq158) (by intro x hx; have := ho.base_le x hx; omega)
            replace hb5 := hb5.keep (kq158) (by intro hx; have h1 := ho.base_le _ hx; (try have h2 := hob0 _ hx); omega)
            replace hb11 := hb11.keep (kq158) (by intro hx; have h1 := ho.base_le _ hx; (try have h2 := hob0 _ hx); omega)
            replace hb17 := hb17.keep (kq158) (by intro hx; have h1 := ho.base_le _ hx; (try have h2 := hob0 _ hx); omega)
            replace hb41 := hb41.keep (kq158) (by intro hx; have h1 := ho.base_le _ hx; (try have h2 := hob0 _ hx); omega)
            replace kp0 := kp0.trans (kq158) (by intro x hx hl; have := ho.base_le x hx; omega)
            replace ho : Own w156 w33.heap.size 38 8 A154 c155 (hold.map mlV ++ [.agg #[.int .i64 m.f, .int .i64 (m.a 0), .int .i64 (m.a 1), .int .i64 (m.a 2), .int .i64 (m.a 3), .int .i64 (m.a 4), .int .i64 (m.a 5), .string m.t]]) := hap157
            replace hob0 : ∀ x ∈ ob A154, x ≠ g39 := by
              rcases hbl with h | h <;> rw [h] <;> intro x hx
              · have := hob0 x hx; omega
              · simp at hx; omega
            refine stp F (f_fieldAddr (r := ⟨g39, 7, none⟩) (sz := 0) rfl Tryd.underlying32 rfl Tryd.sizeOf28 rfl) rfl rfl rfl (fun ac F => ?_)
            refine stpW F (f_store (v := .slice A154 (hold.length + 1) c155) (vs := [.slice A154 (hold.length + 1) c155]) rfl rfl hb41 Tryd.sizeOf28 rfl rfl (by simp) (by simp [plainV])) rfl rfl ?_
            rintro w160 ac wr161 F
            have z162 := wr161.size
            have hsz := (wr161.kp).size
            replace hh := hh.keep (wr161.kp) (by intro x hx; simp at hx; omega)
            replace hb5 := hb5.keep (wr161.kp) (by have := hb5.lt; simp; omega)
            replace hb11 := hb11.keep (wr161.kp) (by have := hb11.lt; simp; omega)
            replace hb17 := hb17.keep (wr161.kp) (by have := hb17.lt; simp; omega)
            replace ho := ho.keep (wr161.kp) (by intro x hx hm; have h1 := ho.base_le x hx; (try have h2 := hob0 x hx); (try have h3 := hob1 x hx); simp at hm; omega)
            replace kp0 := kp0.trans (wr161.kp) (by intro x hx hl; simp at hx; omega)
            replace hb41 : Blk w160 g39 32 ([.int .i64 me, .int .i64 (s 0), .int .i64 (s 1), .int .i64 (s 2), .int .i64 (s 3), .int .i64 (s 4), .int .i64 (s 5), .slice A154 (hold.length + 1) c155]) := wr161.blk
            refine stpEnd ?_
            refine H147 _ _ ?_
            refine c_seq (fun K163 H164 => ?_)
            refine c_region ?_
            refine stp F (f_loadN rfl Tryd.isAgg32 Tryd.sizeOf32 hb41.rdAll) rfl rfl rfl (fun ac F => ?_)
            refine stpW F (f_store (v := .agg #[.int .i64 me, .int .i64 (s 0), .int .i64 (s 1), .int .i64 (s 2), .int .i64 (s 3), .int .i64 (s 4), .int .i64 (s 5), .slice A154 (hold.length + 1) c155]) (vs := [.int .i64 me, .int .i64 (s 0), .int .i64 (s 1), .int .i64 (s 2), .int .i64 (s 3), .int .i64 (s 4), .int .i64 (s 5), .slice A154 (hold.length + 1) c155]) rfl rfl hb17 Tryd.sizeOf32 rfl rfl (by simp) (by simp [plainV])) rfl rfl ?_
            rintro w165 ac wr166 F
            have z167 := wr166.size
            have hsz := (wr166.kp).size
            replace hh := hh.keep (wr166.kp) (by intro x hx; simp at hx; omega)
            replace hb5 := hb5.keep (wr166.kp) (by have := hb5.lt; simp; omega)
            replace hb11 := hb11.keep (wr166.kp) (by have := hb11.lt; simp; omega)
            replace ho := ho.keep (wr166.kp) (by intro x hx hm; have h1 := ho.base_le x hx; (try have h2 := hob0 x hx); (try have h3 := hob1 x hx); simp at hm; omega)
            replace hb41 := hb41.keep (wr166.kp) (by have := hb41.lt; simp; omega)
            replace kp0 := kp0.trans (wr166.kp) (by intro x hx hl; simp at hx; omega)
            replace hb17 : Blk w165 g15 32 ([.int .i64 me, .int .i64 (s 0), .int .i64 (s 1), .int .i64 (s 2), .int .i64 (s 3), .int .i64 (s 4), .int .i64 (s 5), .slice A154 (hold.length + 1) c155]) := wr166.blk
            refine stp F (f_assign rfl) rfl rfl rfl (fun ac F => ?_)
            refine stp F (f_assign rfl) rfl rfl rfl (fun ac F => ?_)
            refine stpEnd ?_
            refine H164 _ _ ?_
            refine wp_ret ?_
            refine retR3 F rfl ⟨_, rfl, run_loadVarN Tryd.isAgg32 Tryd.sizeOf32 hb17.rdAll⟩ rfl rfl ?_
            rw [hearN, if_neg hnn, if_pos hnr, if_neg (by omega)]
            exact ⟨A154, c155, none, 0, by simp, kp0, by simpa using ho.more (by omega), Own.nil _ _ _ _⟩

end Go.Proofs.YtkbngaollbmcbaaDoor.KK
