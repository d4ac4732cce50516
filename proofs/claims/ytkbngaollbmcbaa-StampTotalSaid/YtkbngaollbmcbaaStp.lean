/- Proved is the statement that StampTotal, whatever history it is given, answers true and leaves its argument as it was. No condition. -/
import Derived.Test.YtkbngaollbmcbaaWc
import Derived.Test.YtkbngaollbmcbaaRows
import Derived.WalkKit
import Derived.ProofKit
import Derived.OpenShut
import Derived.ChangeOld
import Derived.Carry
import Derived.Below
import Derived.Deep.Slices
import Derived.Deep.Fields

namespace Go.Proofs.Ytkbngaollbmcbaa.KK
open Go Go.RowKit
open Go.ChangeShapes Go.WideShapes Go.ChangeAt Go.Deep

section
variable {H : Type} {enc : TypeId × Value → H} {P : Program} {w : World} {base : Nat} {spare : Nat → Bool} {held : Bool}
theorem pick_list {α : Type} [Inhabited α] {q : Nat → α → Prop} (n : Nat) (h : ∀ i, i < n → ∃ x, q i x) : ∃ l : List α, l.length = n ∧ ∀ i, i < n → q i (l.getD i default) := by
  refine ⟨(List.range n).map fun i => if h' : i < n then Classical.choose (h i h') else default, by simp, fun i hi => ?_⟩
  have := Classical.choose_spec (h i hi)
  simpa [hi] using this
/-- A slice of events that came in. -/
theorem open_events {t e : TypeId} {f0 f1 f2 : Field} {fuel : Nat} {cs : List Value} {x : DataW H × List MemPlace} (ht : P.underlying t = some (.slice e)) (he : P.underlying e = some (.struct #[f0, f1, f2]))
    (hone : oneCellFields P #[f0, f1, f2] = true) (hC : P.cellsOf e = 3) (h0 : P.underlying f0.type = some (.int .i64)) (h1 : P.underlying f1.type = some (.int .i64)) (h2 : P.underlying f2.type = some (.int .i64)) (h : DataW.trod enc P w base spare held fuel t cs = some x) :
    ∃ (A : Option Addr) (c : Nat) (l : List Ev), cs = [.slice A l.length c] ∧ Sl w 0 w.heap.size 3 A l.length c (evv l) := by
  rcases open_slice ht h with ⟨rfl, _⟩ | ⟨a, len, cap, m, n, D, Pl, rfl, hb, hl, hm, hmm, _, hi⟩
  · exact ⟨none, 0, [], rfl, Sl.nil _ _ _ _ _⟩
  · have key : ∀ i, i < len → ∃ e : Ev, RdAt w (a.add (i * 3)) 3 e.enc := fun i hil => by
      have him : i < m := by rw [hmm]; split <;> omega
      obtain ⟨cs', hc, ht'⟩ := hi i him
      rw [hC] at hc
      obtain ⟨_, hlen, hcell⟩ := World.cells?_some hc
      obtain ⟨ys, k, _, _, _, hys, hf⟩ := DataW.trod_struct he ht'
      obtain ⟨c0, c1, c2, rfl⟩ : ∃ c0 c1 c2, cs' = [c0, c1, c2] := by
        match cs', hlen with
        | [c0, c1, c2], _ => exact ⟨c0, c1, c2, rfl⟩
      have g : ∀ (j : Nat) (f : Field) (c : Value), #[f0, f1, f2][j]? = some f → ([c0, c1, c2].drop j).take 1 = [c] → P.underlying f.type = some (.int .i64) → ∃ z, c = .int .i64 z := fun j f c hj hd hu => by
        obtain ⟨ho, hk⟩ := hone_of hone j f hj
        have h3 := hf j f hj
        rw [ho, hk, hd] at h3
        have hlt : j < ys.length := by rw [hys]; exact (Array.getElem?_eq_some_iff.1 hj).1
        rw [List.getElem?_eq_getElem hlt] at h3
        obtain ⟨z, hz, _⟩ := DataW.trod_int hu h3
        simp at hz
        exact ⟨z, hz⟩
      obtain ⟨z0, rfl⟩ := g 0 f0 c0 rfl rfl h0
      obtain ⟨z1, rfl⟩ := g 1 f1 c1 rfl rfl h1
      obtain ⟨z2, rfl⟩ := g 2 f2 c2 rfl rfl h2
      refine ⟨⟨z0, z1, z2⟩, rfl, fun j u hu => ?_⟩
      have hu' : [Value.int .i64 z0, .int .i64 z1, .int .i64 z2][j]? = some u := by
        have : (#[Value.int .i64 z0, .int .i64 z1, .int .i64 z2] : Array Value)[j]? = some u := hu
        simpa using this
      have hj : j < 3 := (List.getElem?_eq_some_iff.1 hu').1
      rw [hcell j hj]; exact hu'
    obtain ⟨l, hll, hrd⟩ := pick_list len key
    refine ⟨some a, cap, l, by rw [hll], ⟨by omega, fun hp => ?_, fun i hi' => by rw [hll] at hi'; exact hrd i hi'⟩⟩
    rw [hll] at hp
    refine ⟨rfl, Nat.zero_le _, ?_⟩
    have := (hrd 0 hp).2 0 (.int .i64 (l.getD 0 default).proc) rfl
    have hlt := World.block_lt_of_cell? w _ this
    rwa [KK.add_block, KK.add_block] at hlt
end
theorem own1 : ownKnob Try.prog.godebug = none := by kernel_rfl
theorem laidOut1 : laidOutB Try.prog = true := by kernel_rfl

set_option maxRecDepth 100000 in
theorem lifted1 (os : Os) (started : os.Started) (H : Type) (enc : TypeId × Value → H) :
    ReturnsInHanded {} Try.checked os 3 .any (Ytkbngaollbmcbaa.Rows.stampTotalSpec.pre6 enc Try.prog Try.f3 Ytkbngaollbmcbaa.Rows.stampTotalRow.domain false) (Ytkbngaollbmcbaa.Rows.stampTotalSpec.post enc Try.prog Try.f3 false true false false) := by
  refine returnsInHanded_of_change (C := Try.checked) own1 started (by kernel_rfl) Try.func3
    (ChangeSpec.witness6 (enc := enc) (C := Try.checked) false ⟨#[], #[.slice none 0 0], []⟩ 8 (by kernel_rfl) (by kernel_rfl) (by kernel_rfl) (by kernel_rfl)) ?_
  intro W base args ds gs before hval0 hW hcnd _
  have hval : ∀ (j : Nat) t v, Try.f3.params[j]? = some t → args[j]? = some v → Value.okWide Try.prog W .any base t v := hval0
  have hW' := hW
  obtain ⟨p, q, hA0, hV, rfl, hfz, hnd⟩ := hW
  have hA : DataW.TrodAll enc Try.prog W 0 (fun _ => true) true Try.f3.params.toList args.toList ds p := hA0
  rw [Try.params3] at hA hval
  obtain ⟨v0, vs0, d0, ds0, p0, q0, hargs, rfl, rfl, h0, r0⟩ := trodAll_cons hA
  obtain ⟨rfl, rfl, rfl⟩ := trodAll_nil r0
  obtain rfl : args = #[v0] := by cases args; simp_all
  obtain ⟨rfl, rfl⟩ := trodVars_none hV
  obtain ⟨a0, len0, cap0, rfl⟩ := okWide_slice Try.underlying22 (hval 0 22 v0 rfl rfl)
  have k0 := h0
  have lt0 : ∀ x ∈ p0, x.block < W.heap.size := by obtain ⟨m, hm⟩ := k0; exact DataW.trod_lt m _ _ _ hm
  obtain ⟨fuel, hf⟩ := h0
  obtain ⟨A, c, l, hcs, hsl⟩ := open_events Try.underlying22 Try.underlying28 (by kernel_rfl) (by kernel_rfl) Try.underlying3 Try.underlying3 Try.underlying3 hf
  simp [Value.cells] at hcs
  obtain ⟨rfl, rfl, rfl⟩ := hcs
  clear hA0 hval0
  refine (law_c a0 cap0 l W hsl).mono fun e W' he => ?_
  cases e with
  | panicked c => exact he.elim
  | outgrown => exact he.elim
  | returned v =>
    obtain ⟨rfl, kp⟩ := he
    have bel := kp.below
    exact ⟨_, rfl, _, _, _, [], _, [], hW', trodAll_mk1 (shut_bool Try.underlying4 _), (trodAll_cons_mk (Below.trod laidOut1 (by kernel_rfl) (of_decide_eq_true (by kernel_rfl)) k0 bel lt0) trodAll_mk0), rfl, bel.frame _, fun h => by cases h⟩

theorem stampTotal_holds : Ytkbngaollbmcbaa.Rows.StampTotalSaid :=
  OpenClaim.holds_of_wide 3 Try.f3 rfl rfl rfl rfl rfl rfl rfl ⟨rfl, rfl, rfl, rfl, rfl⟩ rfl rfl rfl rfl rfl (by kernel_rfl) Try.func3 (by kernel_rfl)
    (of_decide_eq_true (by kernel_rfl)) (by unfold Func.isWrapper; first | (rw [if_pos (by decide +kernel)]; kernel_rfl) | (rw [if_neg (by decide +kernel)]; exact ⟨rfl, rfl⟩))
    (fun os started H enc _ => lifted1 os started H enc)
end Go.Proofs.Ytkbngaollbmcbaa.KK
