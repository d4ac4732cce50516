/- FlushSame is proved: all members that survive a view change have received the same messages in the view, each once. No condition. -/
import Derived.Test.YtkbngaollbmcbaaFe
import Derived.Test.YtkbngaollbmcbaaRows
import Derived.WalkKit
import Derived.ProofKit
import Derived.OpenShut
import Derived.ChangeOld
import Derived.ChangeSlices
import Derived.Carry
import Derived.Below
import Derived.Deep.Slices
import Derived.Deep.Fields

namespace Go.Proofs.Ytkbngaollbmcbaa.KK
open Go Go.RowKit
open Go.ChangeShapes Go.WideShapes Go.ChangeAt Go.Deep

section
variable {H : Type} {enc : TypeId × Value → H} {w : World} {base : Nat} {spare : Nat → Bool} {held : Bool}
theorem pick_fn {α : Type} [Inhabited α] {q : Nat → α → Prop} (n : Nat) (h : ∀ i, i < n → ∃ x, q i x) : ∃ f : Nat → α, ∀ i, i < n → q i (f i) := by
  refine ⟨fun i => if h' : i < n then Classical.choose (h i h') else default, fun i hi => ?_⟩
  have := Classical.choose_spec (h i hi)
  simpa [hi] using this
/-- A row of ints that came in. -/
theorem open_irow {fuel : Nat} {cs : List Value} {x : DataW H × List MemPlace} (h : DataW.trod enc Try.prog w base spare held fuel 23 cs = some x) :
    ∃ r : Ri, cs = [r.v] ∧ Sl w 0 w.heap.size 1 r.A r.l.length r.c (nvv r.l) := by
  rcases open_ints Try.underlying23 Try.underlying3 (by kernel_rfl) h with ⟨rfl, _⟩ | ⟨a, len, cap, zs, rfl, hb, hl, hm, hz, _, hcell, _⟩
  · exact ⟨⟨none, 0, []⟩, rfl, Sl.nil _ _ _ _ _⟩
  · have hlen : (zs.take len).length = len := by rw [List.length_take, hz]; split <;> omega
    have hge : len ≤ zs.length := by rw [List.length_take] at hlen; omega
    refine ⟨⟨some a, cap, zs.take len⟩, by simp only [Ri.v, hlen], ⟨by rw [hlen]; exact hl, fun hp => ?_, fun i hi => ?_⟩⟩
    · rw [hlen] at hp
      refine ⟨rfl, Nat.zero_le _, ?_⟩
      have := hcell 0 (by omega)
      have hlt := World.block_lt_of_cell? w _ this
      rwa [KK.add_block] at hlt
    · rw [hlen] at hi
      refine ⟨rfl, fun j u hu => ?_⟩
      have hu' : (#[nvv (zs.take len) i] : Array Value)[j]? = some u := hu
      obtain ⟨hj, he⟩ := Array.getElem?_eq_some_iff.1 hu'
      obtain rfl : j = 0 := by simpa using hj
      show w.cell? (((adr (some a)).add (i * 1)).add 0) = _
      rw [KK.add_add, Nat.mul_one, Nat.add_zero]
      show w.cell? (a.add i) = _
      rw [hcell i (by omega), ← he]
      simp [nvv, hi]
theorem wf_rng {z : Int} (h : (Lit.int .i64 z).wf = true) : -9223372036854775808 ≤ z ∧ z ≤ 9223372036854775807 := by
  simp only [Lit.wf, Bool.and_eq_true, decide_eq_true_eq] at h
  exact h
theorem wf_u8 {z : Int} (h : (Lit.int .u8 z).wf = true) : 0 ≤ z ∧ z ≤ 255 := by
  simp only [Lit.wf, Bool.and_eq_true, decide_eq_true_eq] at h
  exact h
set_option maxRecDepth 100000 in
theorem open_flush {fuel : Nat} {cs : List Value} {x : DataW H × List MemPlace} (h : DataW.trod enc Try.prog w base spare held fuel 70 cs = some x) :
    ∃ (num : Int) (mem gone : Nat) (R : Nat → Ri), cs = flL num mem gone R ∧ mem < 256 ∧ gone < 256 ∧ (-9223372036854775808 ≤ num ∧ num ≤ 9223372036854775807) ∧ ∀ p : Nat, p < 6 → Sl w 0 w.heap.size 1 (R p).A (R p).l.length (R p).c (nvv (R p).l) := by
  have c70 : Try.prog.cellsOf 70 = 9 := by kernel_rfl
  have c67 : Try.prog.cellsOf 67 = 2 := by kernel_rfl
  have c68 : Try.prog.cellsOf 68 = 6 := by kernel_rfl
  have c5 : Try.prog.cellsOf 5 = 1 := by kernel_rfl
  have c3 : Try.prog.cellsOf 3 = 1 := by kernel_rfl
  have c23 : Try.prog.cellsOf 23 = 1 := by kernel_rfl
  obtain ⟨ys, k, _, _, hlen, hys, hf⟩ := DataW.trod_struct Try.underlying70 h
  rw [c70] at hlen
  obtain ⟨a0, a1, a2, a3, a4, a5, a6, a7, a8, rfl⟩ : ∃ a0 a1 a2 a3 a4 a5 a6 a7 a8, cs = [a0, a1, a2, a3, a4, a5, a6, a7, a8] := by
    match cs, hlen with
    | [a0, a1, a2, a3, a4, a5, a6, a7, a8], _ => exact ⟨a0, a1, a2, a3, a4, a5, a6, a7, a8, rfl⟩
  have h0 : DataW.trod enc Try.prog w base spare held k 67 (([a0, a1, a2, a3, a4, a5, a6, a7, a8].drop 0).take (Try.prog.cellsOf 67)) = ys[0]? := hf 0 _ rfl
  have h1 : DataW.trod enc Try.prog w base spare held k 5 (([a0, a1, a2, a3, a4, a5, a6, a7, a8].drop 2).take (Try.prog.cellsOf 5)) = ys[1]? := hf 1 _ rfl
  have h2 : DataW.trod enc Try.prog w base spare held k 68 (([a0, a1, a2, a3, a4, a5, a6, a7, a8].drop 3).take (Try.prog.cellsOf 68)) = ys[2]? := hf 2 _ rfl
  have hy3 : ys.length = 3 := hys
  rw [List.getElem?_eq_getElem (by omega)] at h0 h1 h2
  rw [c67] at h0; rw [c5] at h1; rw [c68] at h2
  simp only [List.drop_zero, List.take_succ_cons, List.take_zero, List.drop_succ_cons] at h0 h1 h2
  obtain ⟨zs, k2, _, _, _, hzs, hg⟩ := DataW.trod_struct Try.underlying67 h0
  have g0 : DataW.trod enc Try.prog w base spare held k2 3 (([a0, a1].drop 0).take (Try.prog.cellsOf 3)) = zs[0]? := hg 0 _ rfl
  have g1 : DataW.trod enc Try.prog w base spare held k2 5 (([a0, a1].drop 1).take (Try.prog.cellsOf 5)) = zs[1]? := hg 1 _ rfl
  have hz2 : zs.length = 2 := hzs
  rw [List.getElem?_eq_getElem (by omega)] at g0 g1
  rw [c3] at g0; rw [c5] at g1
  simp only [List.drop_zero, List.take_succ_cons, List.take_zero, List.drop_succ_cons] at g0 g1
  obtain ⟨num, e0, _, w0⟩ := DataW.trod_int Try.underlying3 g0
  obtain ⟨mem, e1, _, w1⟩ := DataW.trod_int Try.underlying5 g1
  obtain ⟨gone, e2, _, w2⟩ := DataW.trod_int Try.underlying5 h1
  simp only [List.cons.injEq, and_true] at e0 e1 e2
  subst e0; subst e1; subst e2
  obtain ⟨vs, k3, _, _, _, hvs, hr⟩ := DataW.trod_array Try.underlying68 h2
  rw [c23] at hr
  have rows : ∀ i, i < 6 → ∃ r : Ri, ([a3, a4, a5, a6, a7, a8].drop (i * 1)).take 1 = [r.v] ∧ Sl w 0 w.heap.size 1 r.A r.l.length r.c (nvv r.l) := fun i hi => by
    have h_ := hr i hi
    rw [List.getElem?_eq_getElem (by omega)] at h_
    obtain ⟨r, h1_, h2_⟩ := open_irow h_
    exact ⟨r, h1_, h2_⟩
  obtain ⟨R, hR⟩ := pick_fn 6 rows
  have r0 := (hR 0 (by omega)).1
  have r1 := (hR 1 (by omega)).1
  have r2 := (hR 2 (by omega)).1
  have r3 := (hR 3 (by omega)).1
  have r4 := (hR 4 (by omega)).1
  have r5 := (hR 5 (by omega)).1
  simp at r0 r1 r2 r3 r4 r5
  have b1 := wf_u8 w1
  have b2 := wf_u8 w2
  refine ⟨num, mem.toNat, gone.toNat, R, ?_, by omega, by omega, wf_rng w0, fun p hp => (hR p hp).2⟩
  rw [r0, r1, r2, r3, r4, r5]
  unfold flL
  rw [show ((mem.toNat : Nat) : Int) = mem from by omega, show ((gone.toNat : Nat) : Int) = gone from by omega]
end
theorem own1 : ownKnob Try.prog.godebug = none := by kernel_rfl
theorem laidOut1 : laidOutB Try.prog = true := by kernel_rfl

set_option maxRecDepth 100000 in
theorem flushLifted (os : Os) (started : os.Started) (H : Type) (enc : TypeId × Value → H) :
    ReturnsInHanded {} Try.checked os 5 .any (Ytkbngaollbmcbaa.Rows.flushSameSpec.pre6 enc Try.prog Try.f5 Ytkbngaollbmcbaa.Rows.flushSameRow.domain false) (Ytkbngaollbmcbaa.Rows.flushSameSpec.post enc Try.prog Try.f5 false true false false) := by
  refine returnsInHanded_of_change (C := Try.checked) own1 started (by kernel_rfl) Try.func5
    (ChangeSpec.witness6 (enc := enc) (C := Try.checked) false ⟨#[], #[.agg #[.int .i64 0, .int .u8 0, .int .u8 0, .slice none 0 0, .slice none 0 0, .slice none 0 0, .slice none 0 0, .slice none 0 0, .slice none 0 0], .int .u8 0], []⟩ 8 (by kernel_rfl) (by kernel_rfl) (by kernel_rfl) (by kernel_rfl)) ?_
  intro W base args ds gs before hval0 hW hcnd _
  have hval : ∀ (j : Nat) t v, Try.f5.params[j]? = some t → args[j]? = some v → Value.okWide Try.prog W .any base t v := hval0
  have hW' := hW
  obtain ⟨p, q, hA0, hV, rfl, hfz, hnd⟩ := hW
  have hA : DataW.TrodAll enc Try.prog W 0 (fun _ => true) true Try.f5.params.toList args.toList ds p := hA0
  rw [Try.params5] at hA hval
  obtain ⟨v0, vs0, d0, ds0, p0, q0, hargs, rfl, rfl, h0, r0⟩ := trodAll_cons hA
  obtain ⟨v1, vs1, d1, ds1, p1, q1, hargs1, rfl, rfl, h1, r1⟩ := trodAll_cons r0
  obtain ⟨rfl, rfl, rfl⟩ := trodAll_nil r1
  subst hargs1
  obtain rfl : args = #[v0, v1] := by cases args; simp_all
  obtain ⟨rfl, rfl⟩ := trodVars_none hV
  obtain ⟨cs, rfl, _⟩ := okWide_struct Try.underlying70 (hval 0 70 v0 rfl rfl)
  obtain ⟨come, rfl, rfl, rfl, hwn⟩ := open_int Try.underlying5 (hval 1 5 v1 rfl rfl) h1
  have k0 := h0
  have lt0 : ∀ x ∈ p0, x.block < W.heap.size := by obtain ⟨m, hm⟩ := k0; exact DataW.trod_lt m _ _ _ hm
  obtain ⟨fuel, hf⟩ := h0
  obtain ⟨num, mem, gone, R, hcs, hmem, hgone, hnum, hS⟩ := open_flush hf
  have hcs2 : cs = (flL num mem gone R).toArray := by
    have : cs.toList = flL num mem gone R := hcs
    rw [← this]
  subst hcs2
  have hcm := wf_u8 hwn
  obtain ⟨cm, hcm2⟩ : ∃ cm : Nat, come = (cm : Int) := ⟨come.toNat, by omega⟩
  subst hcm2
  clear hA0 hval0
  refine (flush_c num mem gone cm R W hmem hgone (by omega) hnum hS).mono fun e W' he => ?_
  cases e with
  | panicked c => exact he.elim
  | outgrown => exact he.elim
  | returned v =>
    obtain ⟨rfl, kp⟩ := he
    have bel := kp.below
    exact ⟨_, rfl, _, _, _, [], _, [], hW', trodAll_mk1 (shut_bool Try.underlying4 _), (trodAll_cons_mk (Below.trod laidOut1 (by kernel_rfl) (of_decide_eq_true (by kernel_rfl)) k0 bel lt0) (trodAll_mk1 (shut_int Try.underlying5 hwn))), rfl, bel.frame _, fun h => by cases h⟩

theorem flushSame_holds : Ytkbngaollbmcbaa.Rows.FlushSameSaid :=
  OpenClaim.holds_of_wide 5 Try.f5 rfl rfl rfl rfl rfl rfl rfl ⟨rfl, rfl, rfl, rfl, rfl⟩ rfl rfl rfl rfl rfl (by kernel_rfl) Try.func5 (by kernel_rfl)
    (of_decide_eq_true (by kernel_rfl)) (by unfold Func.isWrapper; first | (rw [if_pos (by decide +kernel)]; kernel_rfl) | (rw [if_neg (by decide +kernel)]; exact ⟨rfl, rfl⟩))
    (fun os started H enc _ => flushLifted os started H enc)
end Go.Proofs.Ytkbngaollbmcbaa.KK
