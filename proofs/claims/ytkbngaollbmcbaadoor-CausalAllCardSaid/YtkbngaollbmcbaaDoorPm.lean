/- What the proof leans on: rules for a walk through the code, walks of functions, and plain laws. No condition. -/
import Derived.Test.YtkbngaollbmcbaaDoorPl
import Derived.DeepKeys
import Derived.Laws.StructEq

namespace Go.Proofs.YtkbngaollbmcbaaDoor.KK
open Go Go.RowKit

/-! ### Vectors and mails that are compared -/
abbrev vecC (f : Nat → Int) : List Value := [.int .i64 (f 0), .int .i64 (f 1), .int .i64 (f 2), .int .i64 (f 3), .int .i64 (f 4), .int .i64 (f 5)]
abbrev vecV (f : Nat → Int) : Value := .agg #[.int .i64 (f 0), .int .i64 (f 1), .int .i64 (f 2), .int .i64 (f 3), .int .i64 (f 4), .int .i64 (f 5)]
def EqV (a b : Nat → Int) : Prop := ∀ i : Nat, i < 6 → a i = b i
instance (a b : Nat → Int) : Decidable (EqV a b) := inferInstanceAs (Decidable (∀ i : Nat, i < 6 → a i = b i))
theorem run_eqInt (d : Nat) (w : World) (a b : Int) : (Op.equalIn (d + 1) 3 (.int .i64 a) (.int .i64 b)).run Tryd.prog w = .ok (a == b) w := by
  simp [Op.equalIn, run_underlying Tryd.underlying3]
theorem eqItems_int (d : Nat) (w : World) {xs ys : Array Value} {i : Nat} {is : List Nat} {a b : Int} {r : Bool} (hx : xs[i]? = some (.int .i64 a)) (hy : ys[i]? = some (.int .i64 b)) (h : (Op.eqItems (d + 1) 3 1 xs ys is).run Tryd.prog w = .ok r w) :
    (Op.eqItems (d + 1) 3 1 xs ys (i :: is)).run Tryd.prog w = .ok (decide (a = b) && r) w := by
  have p1 : (part 3 xs i).run Tryd.prog w = .ok _ w := run_part_plain w (by kernel_rfl) hx
  have p2 : (part 3 ys i).run Tryd.prog w = .ok _ w := run_part_plain w (by kernel_rfl) hy
  simp only [Op.eqItems, Sem.run_bind, Nat.mul_one, p1, p2, Result.andThen_ok, run_eqInt]
  by_cases e : a = b
  · simp [e, h]
  · simp [e]
theorem run_eqVec (d : Nat) (w : World) (a b : Nat → Int) : (Op.equalIn (d + 2) 30 (vecV a) (vecV b)).run Tryd.prog w = .ok (decide (EqV a b)) w := by
  have hc : Tryd.prog.cellsOf 3 = 1 := by kernel_rfl
  have key : (Op.equalIn (d + 2) 30 (vecV a) (vecV b)).run Tryd.prog w = .ok (decide (a 0 = b 0) && (decide (a 1 = b 1) && (decide (a 2 = b 2) && (decide (a 3 = b 3) && (decide (a 4 = b 4) && (decide (a 5 = b 5) && true)))))) w := by
    rw [run_equalIn_array w (d + 1) (i := Tryd.t3) _ _ Tryd.underlying30 (by kernel_rfl), hc, show List.range 6 = [0, 1, 2, 3, 4, 5] from rfl]
    exact eqItems_int d w rfl rfl (eqItems_int d w rfl rfl (eqItems_int d w rfl rfl (eqItems_int d w rfl rfl (eqItems_int d w rfl rfl (eqItems_int d w rfl rfl (by simp [Op.eqItems]))))))
  rw [key]
  congr 1
  rw [Bool.eq_iff_iff]
  simp only [Bool.and_eq_true, decide_eq_true_eq, and_true]
  constructor
  · rintro ⟨h0, h1, h2, h3, h4, h5⟩ i hi
    have : i = 0 ∨ i = 1 ∨ i = 2 ∨ i = 3 ∨ i = 4 ∨ i = 5 := by omega
    rcases this with rfl | rfl | rfl | rfl | rfl | rfl <;> assumption
  · intro h; exact ⟨h 0 (by omega), h 1 (by omega), h 2 (by omega), h 3 (by omega), h 4 (by omega), h 5 (by omega)⟩
theorem run_eqVec0 (w : World) (a b : Nat → Int) : (Op.equal 30 (vecV a) (vecV b)).run Tryd.prog w = .ok (decide (EqV a b)) w := run_eqVec 9998 w a b
theorem run_eqStr (d : Nat) (w : World) (a b : ByteArray) : (Op.equalIn (d + 1) 9 (.string a) (.string b)).run Tryd.prog w = .ok (a == b) w := by
  simp [Op.equalIn, run_underlying Tryd.underlying9]
/-- Two mails are one. -/
def EqM (x y : Ml) : Prop := x.f = y.f ∧ EqV x.a y.a ∧ x.t = y.t
instance (x y : Ml) : Decidable (EqM x y) := inferInstanceAs (Decidable (_ ∧ _ ∧ _))
section
variable {n : Nat} {l : List (Nat × Value)} {w : World}
theorem f_eqVec {x y : Operand} {d t u p e g} {a b : Nat → Int} (hx : evl l x = some (vecV a)) (hy : evl l y = some (vecV b)) : Fires Tryd.prog ⟨d, .binOp .eql 30 x y t, u, p, e, g⟩ n l w (.bool (decide (EqV a b))) w := fun ac F => by
  have hg : Tryd.prog.eqGuardType Tryd.prog.depth 30 = false := by kernel_rfl
  simp only [execOp, F.eval hx, F.eval hy]
  simp [eqGuard, hg, binOp, run_eqVec0]
theorem f_neVec {x y : Operand} {d t u p e g} {a b : Nat → Int} (hx : evl l x = some (vecV a)) (hy : evl l y = some (vecV b)) : Fires Tryd.prog ⟨d, .binOp .neq 30 x y t, u, p, e, g⟩ n l w (.bool (!decide (EqV a b))) w := fun ac F => by
  have hg : Tryd.prog.eqGuardType Tryd.prog.depth 30 = false := by kernel_rfl
  simp only [execOp, F.eval hx, F.eval hy]
  simp [eqGuard, hg, binOp, run_eqVec0]
end
end Go.Proofs.YtkbngaollbmcbaaDoor.KK
namespace Go.Proofs.YtkbngaollbmcbaaDoor.KK
open Go Go.RowKit
theorem vec_put {s : Nat → Int} {j q : Nat} {x : Int} (hj : j < 6) (hq : q = j) : lay (vecC s) q [.int .i64 x] = vecC (upd s j x) := by
  subst hq
  match q, hj with
  | 0, _ => rfl
  | 1, _ => rfl
  | 2, _ => rfl
  | 3, _ => rfl
  | 4, _ => rfl
  | 5, _ => rfl
/-- The greater ones, up to the k-th. -/
def mxK (a b : Nat → Int) (k : Nat) : Nat → Int := fun i => if i < k then max (a i) (b i) else a i
theorem mxK_next {a b : Nat → Int} {k : Nat} : upd (mxK a b k) k (max (mxK a b k k) (b k)) = mxK a b (k + 1) := by
  funext i
  unfold upd mxK
  by_cases h : i = k
  · subst h; simp
  · rw [if_neg h]
    by_cases h2 : i < k
    · rw [if_pos h2, if_pos (by omega)]
    · rw [if_neg h2, if_neg (by omega)]
theorem mxK_le {a b : Nat → Int} (h : EqV (mxK a b 6) b) : ∀ i : Nat, i < 6 → a i ≤ b i := by
  intro i hi
  have := h i hi
  unfold mxK at this
  rw [if_pos hi] at this
  omega
theorem Chain.above : ∀ {l : List Ml} {s s' : Nat → Int}, Chain s l s' → ∀ y ∈ l, s y.f.toNat < y.a y.f.toNat
  | m :: l, s, s', h, y, hy => by
    rcases List.mem_cons.1 hy with rfl | hy
    · have := (h.1 y.f.toNat (by have := h.2; omega)).1 (by have := h.2; omega)
      omega
    · have h1 := Chain.above h.2.2.2 y hy
      have h2 := bump_le s m y.f.toNat
      omega
theorem Chain.order : ∀ {l : List Ml} {s s' : Nat → Int}, Chain s l s' → ∀ i j : Nat, i < j → j < l.length → ¬ ∀ q : Nat, q < 6 → (l.getD j default).a q ≤ (l.getD i default).a q
  | m :: l, s, s', h, 0, j + 1, _, hj, hle => by
    simp only [List.getD_cons_zero, List.getD_cons_succ] at hle
    have hin : l.getD j default ∈ l := getD_in (by simpa using hj)
    have h1 := Chain.above h.2.2.2 _ hin
    have h0 := Chain.rng h.2.2.2 _ hin
    have h2 := hle (l.getD j default).f.toNat (by omega)
    have h3 := h.1 (l.getD j default).f.toNat (by omega)
    by_cases e : (l.getD j default).f.toNat = m.f.toNat
    · have := h3.1 (by have := h.2; omega)
      rw [e] at h1 h2 this
      rw [bump_at] at h1
      omega
    · rw [bump_off e] at h1
      have := h3.2 (by have := h.2; omega)
      omega
  | m :: l, s, s', h, i + 1, j + 1, hij, hj, hle => Chain.order h.2.2.2 i j (by omega) (by simpa using hj) (fun q hq => by simpa using hle q hq)
end Go.Proofs.YtkbngaollbmcbaaDoor.KK

namespace Go.Proofs.YtkbngaollbmcbaaDoor.KK
open Go Go.RowKit

/-! ### Once everyone has heard everything -/
theorem sub_len {α : Type} : ∀ (l c : List α), l.Pairwise (fun x y => ¬ x = y) → (∀ x ∈ l, x ∈ c) → l.length ≤ c.length
  | [], _, _, _ => Nat.zero_le _
  | x :: l, c, hp, hs => by
    obtain ⟨a, b, rfl⟩ := List.append_of_mem (hs x (by simp))
    obtain ⟨h1, h2⟩ := List.pairwise_cons.1 hp
    have := sub_len l (a ++ b) h2 (fun y hy => by
      have h3 := hs y (by simp [hy])
      have h4 := h1 y hy
      simp only [List.mem_append, List.mem_cons] at h3 ⊢
      rcases h3 with h | h | h
      · exact .inl h
      · exact absurd h.symm h4
      · exact .inr h)
    simp only [List.length_cons, List.length_append] at this ⊢
    omega
structure Inv2 (G : Gm) : Prop where
  zero : ∀ q : Nat, q < 4 → G.sn q 4 = 0 ∧ G.sn q 5 = 0
  uniq : (G.V 4).Pairwise fun x y => ¬ Same x y
  all : ∀ q : Nat, q < 4 → ∀ v : Int, 1 ≤ v → v ≤ G.sn q q → ∃ c ∈ G.V 4, c.f = q ∧ c.a q = v
  ord : ∀ (A : List Ml) (c : Ml) (B : List Ml), G.V 4 = A ++ c :: B → ∀ i : Nat, i < 4 → ∀ v : Int, 1 ≤ v → v ≤ c.a i → ((i : Int) = c.f → v < c.a i) → ∃ x ∈ A, x.f = i ∧ x.a i = v
theorem Inv2.init : Inv2 play0 := ⟨fun _ _ => ⟨rfl, rfl⟩, by simp [play0], fun q _ v h1 h2 => by simp [play0] at h2; omega, fun A c B h => by simp [play0] at h⟩
theorem Inv2.casts {G : Gm} (h : Inv G) (h2 : Inv2 G) {p : Nat} (hp : p < 4) : Inv2 (castG G p) := by
  unfold castG
  split
  · exact h2
  rename_i he
  have hlt : G.sn p p < 16777215 := by
    by_cases hb : G.sn p p < 16777215
    · exact hb
    · exact absurd (by unfold castK castR; rw [if_neg (by simpa using hb)]) he
  have hs : (castK G p).s = upd (G.sn p) p (G.sn p p + 1) := by unfold castK castR; simp [hlt]
  have hm : (castK G p).m = ⟨p, upd (G.sn p) p (G.sn p p + 1), itoaB (G.V 4).length⟩ := by unfold castK castR; simp [hlt]
  rw [hs, hm]
  generalize hM : (⟨p, upd (G.sn p) p (G.sn p p + 1), itoaB (G.V 4).length⟩ : Ml) = M
  have hf : M.f = p := by rw [← hM]
  have ha : M.a = upd (G.sn p) p (G.sn p p + 1) := by rw [← hM]
  have hV4 : upd (upd G.V 4 (G.V 4 ++ [M])) (5 + p) (G.V (5 + p) ++ [M]) 4 = G.V 4 ++ [M] := by rw [upd_off (by omega), upd_at]
  have hpp := (h.valid p hp).hs p (by omega)
  constructor
  · intro q hq
    simp only
    by_cases e : q = p
    · subst e; rw [upd_at, upd_off (by omega), upd_off (by omega)]; exact h2.zero q hq
    · rw [upd_off e]; exact h2.zero q hq
  · simp only; rw [hV4]
    refine List.pairwise_append.2 ⟨h2.uniq, by simp, fun x hx y hy hsm => ?_⟩
    simp at hy; subst hy
    obtain ⟨_, q, hq, hxf, hxa⟩ := h.cast x hx
    have hqp : q = p := by have := hsm.1; omega
    subst hqp
    have h5 := hxa q (by omega)
    have h6 := hsm.2
    rw [hxf, hf, Int.toNat_natCast, ha, upd_at] at h6
    omega
  · intro q hq v hv1 hv2
    simp only at hv2 ⊢; rw [hV4]
    by_cases e : q = p
    · subst e
      rw [upd_at, upd_at] at hv2
      by_cases e2 : v = G.sn q q + 1
      · exact ⟨M, by simp, hf, by rw [ha, upd_at]; exact e2.symm⟩
      · obtain ⟨c, hc, hc2⟩ := h2.all q hq v hv1 (by omega)
        exact ⟨c, List.mem_append_left _ hc, hc2⟩
    · rw [upd_off e] at hv2
      obtain ⟨c, hc, hc2⟩ := h2.all q hq v hv1 hv2
      exact ⟨c, List.mem_append_left _ hc, hc2⟩
  · intro A c B hAB i hi v hv1 hv2 hv3
    simp only at hAB; rw [hV4] at hAB
    rcases List.eq_nil_or_concat B with rfl | ⟨B', b, rfl⟩
    · obtain ⟨rfl, hcM⟩ := List.append_inj' hAB rfl
      simp at hcM; subst hcM
      by_cases e : i = p
      · subst e
        have := hv3 hf.symm
        rw [ha, upd_at] at this
        obtain ⟨x, hx, hx2⟩ := h2.all i hi v hv1 (by omega)
        exact ⟨x, hx, hx2⟩
      · rw [ha, upd_off e] at hv2
        obtain ⟨x, hx, hx2⟩ := h2.all i hi v hv1 (Int.le_trans hv2 (h.dom p i hp hi))
        exact ⟨x, hx, hx2⟩
    · rw [List.concat_eq_append, show A ++ c :: (B' ++ [b]) = (A ++ c :: B') ++ [b] from by simp] at hAB
      obtain ⟨h5, _⟩ := List.append_inj' hAB rfl
      exact h2.ord A c B' h5 i hi v hv1 hv2 hv3
theorem hear_keeps (G : Gm) {p : Nat} (hp : p < 4) (k : Nat) : (hearG G p k).V 4 = G.V 4 ∧ (∀ q, q ≠ p → (hearG G p k).sn q = G.sn q) := by
  unfold hearG
  split
  · exact ⟨rfl, fun _ _ => rfl⟩
  · refine ⟨?_, fun q hq => upd_off hq⟩
    show upd (upd G.V p _) (5 + p) _ 4 = _
    rw [upd_off (by omega), upd_off (by omega)]
theorem Inv2.hears {G : Gm} (h : Inv G) (h2 : Inv2 G) {p k : Nat} (hp : p < 4) (hk : k < (G.V 4).length) : Inv2 (hearG G p k) := by
  have hI := h.hears hp hk
  obtain ⟨e4, eq⟩ := hear_keeps G hp k
  have hlen := hI.len
  rw [e4, h.len] at hlen
  have hd : ∀ q : Nat, q < 4 → (hearG G p k).sn q q = G.sn q q := fun q hq => by
    by_cases e : q = p
    · subst e
      have h0 : ∀ r, r ≠ q → (hearG G q k).sn r r = G.sn r r := fun r hr => by rw [eq r hr]
      have := four hq
      rcases this with rfl | rfl | rfl | rfl
      · have a1 := h0 1 (by omega); have a2 := h0 2 (by omega); have a3 := h0 3 (by omega); omega
      · have a1 := h0 0 (by omega); have a2 := h0 2 (by omega); have a3 := h0 3 (by omega); omega
      · have a1 := h0 1 (by omega); have a2 := h0 0 (by omega); have a3 := h0 3 (by omega); omega
      · have a1 := h0 1 (by omega); have a2 := h0 2 (by omega); have a3 := h0 0 (by omega); omega
    · rw [eq q e]
  have hz : ∀ i : Nat, i = 4 ∨ i = 5 → (hearG G p k).sn p i = 0 := fun i hi => by
    rcases (hI.chain p hp).num i (by omega) with e | ⟨m, hm, e, _⟩
    · exact e
    · obtain ⟨_, q, hq, hmf, _⟩ := hI.cast m (hI.told p hp m hm)
      omega
  refine ⟨fun q hq => ?_, by rw [e4]; exact h2.uniq, fun q hq v h1 hv => ?_, fun A c B hAB => h2.ord A c B (by rw [← e4]; exact hAB)⟩
  · by_cases e : q = p
    · subst e; exact ⟨hz 4 (.inl rfl), hz 5 (.inr rfl)⟩
    · rw [eq q e]; exact h2.zero q hq
  · rw [hd q hq] at hv; rw [e4]; exact h2.all q hq v h1 hv
theorem Inv2.steps {G : Gm} (h : Inv G) (h2 : Inv2 G) (x : Pst) : Inv2 (stepG G x) := by
  unfold stepG
  obtain ⟨p, hp, _, hpn⟩ := who4 x.who
  rw [hpn]
  split
  · exact h2.casts h hp
  · split
    · exact h2
    · rename_i h4
      have := restN_rng x.n (n := ((G.V 4).length : Int)) (by omega)
      exact h2.hears h hp (by omega)
theorem Inv2.fold : ∀ (ps : List Pst) {G : Gm}, Inv G → Inv2 G → Inv2 (ps.foldl stepG G)
  | [], _, _, h2 => h2
  | x :: ps, _, h, h2 => Inv2.fold ps (h.steps x) (h2.steps h x)
theorem Inv2.play (ps : List Pst) : Inv2 (playN ps) := Inv2.fold ps Inv.init Inv2.init

/-- Told, or held. -/
def Dn (G : Gm) (p : Nat) (c : Ml) : Prop := c.a c.f.toNat ≤ G.sn p c.f.toNat ∨ HasSame (G.V p) c
theorem Chain.last : ∀ {l : List Ml} {s s' : Nat → Int}, Chain s l s' → ∀ m ∈ l, m.a m.f.toNat ≤ s' m.f.toNat
  | x :: l, s, s', h, m, hm => by
    rcases List.mem_cons.1 hm with rfl | hm
    · have h1 := (h.1 m.f.toNat (by have := h.2; omega)).1 (by have := h.2; omega)
      have h2 := Chain.le h.2.2.2 m.f.toNat
      rw [bump_at] at h2
      omega
    · exact Chain.last h.2.2.2 m hm
theorem Chain.has : ∀ {l : List Ml} {s s' : Nat → Int}, Chain s l s' → ∀ (q : Nat) (v : Int), q < 6 → s q < v → v ≤ s' q → ∃ y ∈ l, y.f = q ∧ y.a q = v
  | [], s, s', h, q, v, _, h1, h2 => by cases h; omega
  | x :: l, s, s', h, q, v, hq, h1, h2 => by
    by_cases e : bump s x q < v
    · obtain ⟨y, hy, hy2⟩ := Chain.has h.2.2.2 q v hq e h2
      exact ⟨y, by simp [hy], hy2⟩
    · by_cases e2 : q = x.f.toNat
      · subst e2
        rw [bump_at] at e
        have h3 := (h.1 x.f.toNat hq).1 (by have := h.2; omega)
        exact ⟨x, by simp, by have := h.2; omega, by omega⟩
      · rw [bump_off e2] at e; omega
theorem dn_hear {G : Gm} (h : Inv G) (h30 : (G.V 4).length ≤ 30) {p k : Nat} (hp : p < 4) (hk : k < (G.V 4).length) :
    Dn (hearG G p k) p ((G.V 4).getD k default) ∧ ∀ c, Dn G p c → Dn (hearG G p k) p c := by
  have hin : (G.V 4).getD k default ∈ G.V 4 := getD_in hk
  have hv := h.valid p hp
  have h40 : ¬ (G.V p).length = 40 := fun e => by
    have hne : (G.V p).Pairwise fun x y => ¬ x = y := hv.pair.imp (fun hns e => hns (by rw [e]; exact ⟨rfl, rfl⟩))
    have := sub_len _ _ hne (h.hold p hp)
    omega
  unfold hearG
  generalize hM : (G.V 4).getD k default = M at hin
  unfold hearR hearN
  by_cases c1 : M.f = p ∨ M.a M.f.toNat ≤ G.sn p M.f.toNat ∨ HasSame (G.V p) M
  · rw [if_pos c1]
    simp only
    rw [if_neg (by decide)]
    have e1 : upd G.sn p (G.sn p) = G.sn := upd_same rfl
    have e2 : upd (upd G.V p (G.V p)) (5 + p) (G.V (5 + p) ++ []) = G.V := by rw [upd_same (s := G.V) rfl, List.append_nil, upd_same rfl]
    rw [e1, e2]
    refine ⟨?_, fun c hc => hc⟩
    rcases c1 with e | e | e
    · obtain ⟨_, q, hq, hmf, hma⟩ := h.cast M hin
      have : q = p := by omega
      subst this
      refine .inl ?_
      rw [hmf, Int.toNat_natCast]
      exact hma q (by omega)
    · exact .inl e
    · exact .inr e
  · rw [if_neg c1]
    by_cases c2 : Rdy (G.sn p) M
    · rw [if_neg (show ¬ ¬ Rdy (G.sn p) M from fun hn => hn c2)]
      simp only
      rw [if_neg (by decide)]
      have hns : ¬ HasSame (G.V p) M := fun e => c1 (.inr (.inr e))
      obtain ⟨d1, d2, d3, d4, d5⟩ := drain_spec _ _ _ _ rfl (h.drn hp hin hns c2)
      have key : ∀ x, x ∈ M :: G.V p → x.a x.f.toNat ≤ (drainN (G.V p).length (G.sn p) (G.V p) M).1 x.f.toNat ∨ x ∈ (drainN (G.V p).length (G.sn p) (G.V p) M).2.1 := fun x hx => by
        rcases List.mem_append.1 (d5.mem_iff.2 hx) with h1 | h1
        · exact .inl (d1.last x h1)
        · exact .inr h1
      have res : ∀ c x : Ml, Same x c → x ∈ M :: G.V p → Dn ⟨upd G.sn p (drainN (G.V p).length (G.sn p) (G.V p) M).1, upd (upd G.V p (drainN (G.V p).length (G.sn p) (G.V p) M).2.1) (5 + p) (G.V (5 + p) ++ (drainN (G.V p).length (G.sn p) (G.V p) M).2.2)⟩ p c := fun c x hs hx => by
        rcases key x hx with h1 | h1
        · refine .inl ?_
          simp only
          rw [upd_at, ← hs.2, ← hs.1]; exact h1
        · refine .inr ⟨x, ?_, hs⟩
          simp only
          rw [upd_off (by omega), upd_at]; exact h1
      refine ⟨res M M ⟨rfl, rfl⟩ (by simp), fun c hc => ?_⟩
      rcases hc with hc | ⟨x, hx, hs⟩
      · refine .inl ?_
        simp only
        rw [upd_at]
        exact Int.le_trans hc (d1.le _)
      · exact res c x hs (by simp [hx])
    · rw [if_pos c2, if_neg h40]
      simp only
      rw [if_neg (by decide)]
      refine ⟨.inr ⟨M, ?_, rfl, rfl⟩, fun c hc => ?_⟩
      · simp only; rw [upd_off (by omega), upd_at]; simp
      · rcases hc with hc | ⟨x, hx, hs⟩
        · refine .inl ?_; simp only; rw [upd_at]; exact hc
        · refine .inr ⟨x, ?_, hs⟩; simp only; rw [upd_off (by omega), upd_at]; simp [hx]
theorem told_step {G : Gm} {p : Nat} (h : Inv G) (h2 : Inv2 G) (hp : p < 4) (hd : ∀ c ∈ G.V 4, Dn G p c) (A : List Ml) (c : Ml) (B : List Ml) (hAB : G.V 4 = A ++ c :: B) (ihA : ∀ x ∈ A, x.a x.f.toNat ≤ G.sn p x.f.toNat) : c.a c.f.toNat ≤ G.sn p c.f.toNat := by
  have hcin : c ∈ G.V 4 := by rw [hAB]; simp
  rcases hd c hcin with h1 | ⟨x, hx, hs⟩
  · exact h1
  · exfalso
    have hxin := h.hold p hp x hx
    have hxc : x = c := by
      obtain ⟨i, hi, hxi⟩ := List.mem_iff_getElem.1 hxin
      obtain ⟨j, hj, hcj⟩ := List.mem_iff_getElem.1 hcin
      rcases Nat.lt_trichotomy i j with hlt | heq | hgt
      · exact absurd (by rw [hxi, hcj]; exact hs) (List.pairwise_iff_getElem.1 h2.uniq i j hi hj hlt)
      · subst heq; rw [← hxi, ← hcj]
      · exact absurd (by rw [hxi, hcj]; exact ⟨hs.1.symm, hs.2.symm⟩) (List.pairwise_iff_getElem.1 h2.uniq j i hj hi hgt)
    subst hxc
    obtain ⟨hF, _, habove, hnr⟩ := (h.valid p hp).all x hx
    obtain ⟨_, q, hq, hxf, hxa⟩ := h.cast x hxin
    have hx2 : x.f.toNat = q := by omega
    rw [hx2] at habove
    refine hnr fun i hi => ?_
    have hpi := ((h.valid p hp).hs i hi).1
    by_cases hi4 : i < 4
    · have low : ∀ v : Int, 1 ≤ v → v ≤ x.a i → ((i : Int) = x.f → v < x.a i) → v ≤ G.sn p i := fun v v1 v2 v3 => by
        obtain ⟨y, hy, hyf, hya⟩ := h2.ord A x B hAB i hi4 v v1 v2 v3
        have := ihA y hy
        rw [hyf, Int.toNat_natCast, hya] at this
        exact this
      refine ⟨fun e => ?_, fun e => ?_⟩
      · have : i = q := by omega
        subst this
        by_cases e1 : x.a i = 1
        · have := ((h.valid p hp).hs i hi).1; omega
        · have := low (x.a i - 1) (by have := hF.2.2.2; rw [hx2] at this; omega) (by omega) (fun _ => by omega)
          omega
      · by_cases e1 : x.a i ≤ 0
        · omega
        · exact low (x.a i) (by omega) (by omega) (fun e2 => absurd e2 e)
    · have hz := h2.zero q hq
      have hai := hxa i hi
      have : i = 4 ∨ i = 5 := by omega
      refine ⟨fun e => by omega, fun _ => ?_⟩
      rcases this with rfl | rfl
      · have := hz.1; omega
      · have := hz.2; omega
/-- Everything has been heard: everything has been told. -/
theorem all_told {G : Gm} (h : Inv G) (h2 : Inv2 G) {p : Nat} (hp : p < 4) (hd : ∀ c ∈ G.V 4, Dn G p c) : ∀ c ∈ G.V 4, c.a c.f.toNat ≤ G.sn p c.f.toNat := by
  have key : ∀ n : Nat, ∀ (A : List Ml) (c : Ml) (B : List Ml), A.length ≤ n → G.V 4 = A ++ c :: B → c.a c.f.toNat ≤ G.sn p c.f.toNat := by
    intro n
    induction n with
    | zero =>
      intro A c B hA hAB
      exact told_step h h2 hp hd A c B hAB (fun x hx => by obtain rfl := List.eq_nil_of_length_eq_zero (Nat.le_zero.1 hA); simp at hx)
    | succ n ih =>
      intro A c B hA hAB
      refine told_step h h2 hp hd A c B hAB fun x hx => ?_
      obtain ⟨A1, A2, rfl⟩ := List.append_of_mem hx
      exact ih A1 x (A2 ++ c :: B) (by simp at hA; omega) (by rw [hAB]; simp)
  intro c hc
  obtain ⟨A, B, hAB⟩ := List.append_of_mem hc
  exact key A.length A c B (Nat.le_refl _) hAB
theorem all_done {G : Gm} (h : Inv G) (h2 : Inv2 G) {p : Nat} (hp : p < 4) (hd : ∀ c ∈ G.V 4, Dn G p c) :
    G.V p = [] ∧ (G.V (5 + p)).length = (G.V 4).length ∧ ∀ c ∈ G.V 4, c ∈ G.V (5 + p) := by
  have ht := all_told h h2 hp hd
  have hse : ∀ q : Nat, q < 4 → G.sn p q = G.sn q q := fun q hq => by
    have h1 := h.dom p q hp hq
    have h0 := ((h.valid p hp).hs q (by omega)).1
    by_cases e : G.sn q q ≤ 0
    · omega
    · obtain ⟨c, hc, hcf, hca⟩ := h2.all q hq (G.sn q q) (by omega) (Int.le_refl _)
      have := ht c hc
      rw [hcf, Int.toNat_natCast, hca] at this
      omega
  refine ⟨?_, ?_, fun c hc => ?_⟩
  · cases hV : G.V p with
    | nil => rfl
    | cons x l =>
      have hx : x ∈ G.V p := by rw [hV]; simp
      have h1 := ((h.valid p hp).all x hx).2.2.1
      have h3 := ht x (h.hold p hp x hx)
      omega
  · have h1 := (h.chain p hp).len
    have h3 := h.len
    have hz := h2.zero p hp
    have a0 := hse 0 (by omega); have a1 := hse 1 (by omega); have a2 := hse 2 (by omega); have a3 := hse 3 (by omega)
    omega
  · obtain ⟨hF, q, hq, hcf, hca⟩ := h.cast c hc
    have h1 := ht c hc
    have h3 := hF.2.2.2
    rw [show c.f.toNat = q from by omega] at h1 h3
    obtain ⟨y, hy, hyf, hya⟩ := (h.chain p hp).has q (c.a q) (by omega) (by simpa using h3) h1
    have hyin := h.told p hp y hy
    have hs : Same y c := ⟨by omega, by rw [show y.f.toNat = q from by omega, show c.f.toNat = q from by omega]; exact hya⟩
    obtain ⟨i, hi, hyi⟩ := List.mem_iff_getElem.1 hyin
    obtain ⟨j, hj, hcj⟩ := List.mem_iff_getElem.1 hc
    rcases Nat.lt_trichotomy i j with hlt | heq | hgt
    · exact absurd (by rw [hyi, hcj]; exact hs) (List.pairwise_iff_getElem.1 h2.uniq i j hi hj hlt)
    · subst heq; rw [← hcj, hyi]; exact hy
    · exact absurd (by rw [hyi, hcj]; exact ⟨hs.1.symm, hs.2.symm⟩) (List.pairwise_iff_getElem.1 h2.uniq j i hj hi hgt)
theorem restN_emod {x n : Int} (h : 0 < n) : restN x n = x % n := by
  rw [restN, if_pos h]
  have h1 := rest_rng x n h
  have h2 : (x.tmod n + n).tmod n = (x.tmod n + n) % n := Int.tmod_eq_emod_of_nonneg (by have := rest_b x n h; omega)
  rw [h2, Int.add_emod_right]
  have h3 : x.tmod n = x - n * x.tdiv n := by have := Int.tmod_add_mul_tdiv x n; omega
  rw [h3, Int.sub_mul_emod_self_left]
/-- Going round, each one is met. -/
theorem round_all (t : Int) {n : Nat} (hn : 0 < n) : ∀ j : Nat, j < n → ∃ i : Nat, i < n ∧ (restN (t + i) n).toNat = j := by
  intro j hj
  have h0 : 0 ≤ ((j : Int) - t) % n := Int.emod_nonneg _ (by omega)
  have h1 : ((j : Int) - t) % n < n := Int.emod_lt_of_pos _ (by omega)
  refine ⟨(((j : Int) - t) % n).toNat, by omega, ?_⟩
  rw [restN_emod (by omega), show ((((j : Int) - t) % n).toNat : Int) = ((j : Int) - t) % n from by omega, Int.add_emod_emod, show t + ((j : Int) - t) = j from by omega, Int.emod_eq_of_lt (by omega) (by omega)]
  omega
end Go.Proofs.YtkbngaollbmcbaaDoor.KK

namespace Go.Proofs.YtkbngaollbmcbaaDoor.KK
open Go Go.RowKit

set_option maxHeartbeats 4000000 in
theorem max_c (a b : Nat → Int) (w0 : World) : Calls Tryd.prog 29 #[.agg #[.int .i64 (a 0), .int .i64 (a 1), .int .i64 (a 2), .int .i64 (a 3), .int .i64 (a 4), .int .i64 (a 5)], .agg #[.int .i64 (b 0), .int .i64 (b 1), .int .i64 (b 2), .int .i64 (b 3), .int .i64 (b 4), .int .i64 (b 5)]] w0 (Ret fun v w' => v = vecV (mxK a b 6) ∧ Kp [] w0 w') := by
  refine enter (n := 20) Tryd.func29 rfl rfl rfl (fun ac F => ?_)
  have kp0 := Kp.refl ([] : List Nat) w0
  refine c_seq (fun K1 H2 => ?_)
  refine c_region ?_
  refine stpE F (f_box (cs := [.int .i64 (a 0), .int .i64 (a 1), .int .i64 (a 2), .int .i64 (a 3), .int .i64 (a 4), .int .i64 (a 5)]) rfl rfl) rfl rfl rfl ?_
  rintro _ w4 ac ⟨g3, rfl, nb6⟩ F
  have n7 := nb6.num
  have z8 := nb6.size
  have hsz := (nb6.kp).size
  replace kp0 := kp0.trans (nb6.kp) (by simp)
  have hb5 : Blk w4 g3 30 ([.int .i64 (a 0), .int .i64 (a 1), .int .i64 (a 2), .int .i64 (a 3), .int .i64 (a 4), .int .i64 (a 5)]) := nb6.blk
  refine stpE F (f_box (cs := [.int .i64 (b 0), .int .i64 (b 1), .int .i64 (b 2), .int .i64 (b 3), .int .i64 (b 4), .int .i64 (b 5)]) rfl rfl) rfl rfl rfl ?_
  rintro _ w10 ac ⟨g9, rfl, nb12⟩ F
  have n13 := nb12.num
  have z14 := nb12.size
  have hsz := (nb12.kp).size
  replace hb5 := hb5.keep (nb12.kp) (by simp)
  replace kp0 := kp0.trans (nb12.kp) (by simp)
  have hb11 : Blk w10 g9 30 ([.int .i64 (b 0), .int .i64 (b 1), .int .i64 (b 2), .int .i64 (b 3), .int .i64 (b 4), .int .i64 (b 5)]) := nb12.blk
  refine stpE F (f_alloc (cs := [.int .i64 0, .int .i64 0, .int .i64 0, .int .i64 0, .int .i64 0, .int .i64 0]) Tryd.zeroValue30 rfl) rfl rfl rfl ?_
  rintro _ w16 ac ⟨g15, rfl, nb18⟩ F
  have n19 := nb18.num
  have z20 := nb18.size
  have hsz := (nb18.kp).size
  replace hb5 := hb5.keep (nb18.kp) (by simp)
  replace hb11 := hb11.keep (nb18.kp) (by simp)
  replace kp0 := kp0.trans (nb18.kp) (by simp)
  have hb17 : Blk w16 g15 30 ([.int .i64 0, .int .i64 0, .int .i64 0, .int .i64 0, .int .i64 0, .int .i64 0]) := nb18.blk
  refine stpEnd ?_
  refine H2 _ _ ?_
  refine c_seq (fun K21 H22 => ?_)
  refine c_seq (fun K23 H24 => ?_)
  refine c_region ?_
  refine stp F (f_move rfl) rfl rfl rfl (fun ac F => ?_)
  refine stpEnd ?_
  refine H24 _ _ ?_
  refine wp_block ?_
  refine c_loop (fun mx ax wx => ∃ (k : Nat), Fr ax 20 [(2, .pointer (some ⟨g3, 0, none⟩)), (3, .pointer (some ⟨g9, 0, none⟩)), (4, .pointer (some ⟨g15, 0, none⟩)), (6, .int .i64 (k : Int))] ∧ Kp [] w0 wx ∧ Blk wx g3 30 ([.int .i64 ((mxK a b k) 0), .int .i64 ((mxK a b k) 1), .int .i64 ((mxK a b k) 2), .int .i64 ((mxK a b k) 3), .int .i64 ((mxK a b k) 4), .int .i64 ((mxK a b k) 5)]) ∧ Blk wx g9 30 ([.int .i64 (b 0), .int .i64 (b 1), .int .i64 (b 2), .int .i64 (b 3), .int .i64 (b 4), .int .i64 (b 5)]) ∧ Blk wx g15 30 ([.int .i64 0, .int .i64 0, .int .i64 0, .int .i64 0, .int .i64 0, .int .i64 0]) ∧ (k ≤ 6) ∧ mx = 6 - k) (6 - 0) ?_ ?_
  · exact ⟨0, F.sub ⟨rfl, rfl, rfl, rfl, trivial⟩, kp0, hb5, hb11, hb17, by omega, rfl⟩
  · clear F kp0 hb5 hb11 hb17
    rintro m26 ac wl25 ⟨k, F, kp0, hb5, hb11, hb17, hk, hm⟩
    have hsz := kp0.size
    have lt_hb5 := hb5.lt
    have lt_hb11 := hb11.lt
    have lt_hb17 := hb17.lt
    refine c_seq (fun K27 H28 => ?_)
    refine c_region ?_
    refine stp F (f_lss rfl rfl) rfl rfl rfl (fun ac F => ?_)
    refine stpEnd ?_
    refine H28 _ _ ?_
    refine c_seq (fun K29 H30 => ?_)
    by_cases hc31 : (k : Int) < 6
    · have hc := hc31
      replace F := F.setb (k := 7) (b' := true) rfl (decide_eq_true hc)
      clear hc
      refine c_true F rfl ?_
      refine wp_skip ?_
      refine H30 _ _ ?_
      refine c_seq (fun K32 H33 => ?_)
      refine wp_block ?_
      refine c_seq (fun K34 H35 => ?_)
      refine c_region ?_
      refine stp F (f_move rfl) rfl rfl rfl (fun ac F => ?_)
      refine stp F (f_assign rfl) rfl rfl rfl (fun ac F => ?_)
      refine stpEnd ?_
      refine H35 _ _ ?_
      refine c_draw 10 (by rfl) (by decide +kernel) (fun wx => Kp [] wl25 wx) (Kp.drew _) ?_
      refine tP F rfl (fun wq => f_move rfl) rfl rfl rfl (fun ac F => ?_)
      refine tP F rfl (fun wq => f_move rfl) rfl rfl rfl (fun ac F => ?_)
      refine tP F rfl (fun wq => f_indexA (r := ⟨g3, k * 1, none⟩) rfl rfl Tryd.underlying30 Tryd.sizeOf3 (by omega) (by omega) (add_eq (by omega))) rfl rfl rfl (fun ac F => ?_)
      refine tQ F rfl (fun wq hq => f_load1 (v := .int .i64 ((mxK a b k) k)) rfl Tryd.isAgg3 (((hb5.keep hq (by simp)).cell _).trans (six (o := 0) (q := k * 1) (f := fun i_ => .int .i64 ((mxK a b k) i_)) rfl rfl rfl rfl rfl rfl (j := k) (by omega) (by omega)))) rfl rfl rfl (fun ac F => ?_)
      refine tP F rfl (fun wq => f_move rfl) rfl rfl rfl (fun ac F => ?_)
      refine tP F rfl (fun wq => f_indexA (r := ⟨g9, k * 1, none⟩) rfl rfl Tryd.underlying30 Tryd.sizeOf3 (by omega) (by omega) (add_eq (by omega))) rfl rfl rfl (fun ac F => ?_)
      refine tQ F rfl (fun wq hq => f_load1 (v := .int .i64 (b k)) rfl Tryd.isAgg3 (((hb11.keep hq (by simp)).cell _).trans (six (o := 0) (q := k * 1) (f := fun i_ => .int .i64 (b i_)) rfl rfl rfl rfl rfl rfl (j := k) (by omega) (by omega)))) rfl rfl rfl (fun ac F => ?_)
      refine tP F rfl (fun wq => f_max rfl rfl rfl) rfl rfl rfl (fun ac F => ?_)
      refine tP F rfl (fun wq => f_indexA (r := ⟨g3, k * 1, none⟩) rfl rfl Tryd.underlying30 Tryd.sizeOf3 (by omega) (by omega) (add_eq (by omega))) rfl rfl rfl (fun ac F => ?_)
      refine tW (C' := (fun wx => Kp [g3] wl25 wx ∧ Blk wx g3 30 ([.int .i64 ((upd (mxK a b k) k (max ((mxK a b k) k) (b k))) 0), .int .i64 ((upd (mxK a b k) k (max ((mxK a b k) k) (b k))) 1), .int .i64 ((upd (mxK a b k) k (max ((mxK a b k) k) (b k))) 2), .int .i64 ((upd (mxK a b k) k (max ((mxK a b k) k) (b k))) 3), .int .i64 ((upd (mxK a b k) k (max ((mxK a b k) k) (b k))) 4), .int .i64 ((upd (mxK a b k) k (max ((mxK a b k) k) (b k))) 5)]))) F rfl (fun wq hq => FiresW.mono (f_store (v := .int .i64 (max ((mxK a b k) k) (b k))) (vs := [.int .i64 (max ((mxK a b k) k) (b k))]) rfl rfl (hb5.keep hq (by simp)) Tryd.sizeOf3 rfl rfl (by simp; omega) (by simp [plainV])) (fun wx h2 => ⟨(hq.mono (M' := [g3]) (by simp)).trans h2.kp (by intro x hx _; exact hx), ((h2.blk).eqv (vec_put (by omega) (by omega)))⟩)) rfl rfl (fun ac F => ?_)
      refine tEnd (fun w38 hq => ?_)
      obtain ⟨hq, hn⟩ := hq
      have hsz := hq.size
      replace hb11 := hb11.keep hq (by have := hb11.lt; simp; omega)
      replace hb17 := hb17.keep hq (by have := hb17.lt; simp; omega)
      replace kp0 := kp0.trans hq (by intro x hx hl; simp at hx; omega)
      replace hb5 : Blk w38 g3 30 ([.int .i64 ((upd (mxK a b k) k (max ((mxK a b k) k) (b k))) 0), .int .i64 ((upd (mxK a b k) k (max ((mxK a b k) k) (b k))) 1), .int .i64 ((upd (mxK a b k) k (max ((mxK a b k) k) (b k))) 2), .int .i64 ((upd (mxK a b k) k (max ((mxK a b k) k) (b k))) 3), .int .i64 ((upd (mxK a b k) k (max ((mxK a b k) k) (b k))) 4), .int .i64 ((upd (mxK a b k) k (max ((mxK a b k) k) (b k))) 5)]) := hn
      refine H33 _ _ ?_
      refine c_region ?_
      refine stp F (f_add (r := ((k + 1 : Nat) : Int)) rfl rfl (by rw [IntKind.wrap_i64]; omega)) rfl rfl rfl (fun ac F => ?_)
      refine stp F (f_move rfl) rfl rfl rfl (fun ac F => ?_)
      refine stpEnd ?_
      rw [mxK_next] at hb5
      refine ⟨6 - (k + 1), ?_, (k + 1), F.sub ⟨rfl, rfl, rfl, rfl, trivial⟩, kp0, hb5, hb11, hb17, by omega, rfl⟩
      omega
    · have hc := hc31
      replace F := F.setb (k := 7) (b' := false) rfl (decide_eq_false hc)
      clear hc
      refine c_false F rfl ?_
      refine wp_exit ?_
      refine H22 _ _ ?_
      refine c_seq (fun K39 H40 => ?_)
      refine c_region ?_
      refine stp F (f_loadN rfl Tryd.isAgg30 Tryd.sizeOf30 hb5.rdAll) rfl rfl rfl (fun ac F => ?_)
      refine stpW F (f_store (v := .agg #[.int .i64 ((mxK a b k) 0), .int .i64 ((mxK a b k) 1), .int .i64 ((mxK a b k) 2), .int .i64 ((mxK a b k) 3), .int .i64 ((mxK a b k) 4), .int .i64 ((mxK a b k) 5)]) (vs := [.int .i64 ((mxK a b k) 0), .int .i64 ((mxK a b k) 1), .int .i64 ((mxK a b k) 2), .int .i64 ((mxK a b k) 3), .int .i64 ((mxK a b k) 4), .int .i64 ((mxK a b k) 5)]) rfl rfl hb17 Tryd.sizeOf30 rfl rfl (by simp) (by simp [plainV])) rfl rfl ?_
      rintro w41 ac wr42 F
      have z43 := wr42.size
      have hsz := (wr42.kp).size
      replace hb5 := hb5.keep (wr42.kp) (by have := hb5.lt; simp; omega)
      replace hb11 := hb11.keep (wr42.kp) (by have := hb11.lt; simp; omega)
      replace kp0 := kp0.trans (wr42.kp) (by intro x hx hl; simp at hx; omega)
      replace hb17 : Blk w41 g15 30 ([.int .i64 ((mxK a b k) 0), .int .i64 ((mxK a b k) 1), .int .i64 ((mxK a b k) 2), .int .i64 ((mxK a b k) 3), .int .i64 ((mxK a b k) 4), .int .i64 ((mxK a b k) 5)]) := wr42.blk
      refine stpEnd ?_
      refine H40 _ _ ?_
      refine wp_ret ?_
      refine retR1 F rfl ⟨_, rfl, run_loadVarN Tryd.isAgg30 Tryd.sizeOf30 hb17.rdAll⟩ ?_
      have hk6 : k = 6 := by omega
      subst hk6
      exact ⟨rfl, kp0⟩

set_option maxHeartbeats 4000000 in
theorem within_c (a b : Nat → Int) (w0 : World) : Calls Tryd.prog 15 #[.agg #[.int .i64 (a 0), .int .i64 (a 1), .int .i64 (a 2), .int .i64 (a 3), .int .i64 (a 4), .int .i64 (a 5)], .agg #[.int .i64 (b 0), .int .i64 (b 1), .int .i64 (b 2), .int .i64 (b 3), .int .i64 (b 4), .int .i64 (b 5)]] w0 (Ret fun v w' => v = .bool (decide (EqV (mxK a b 6) b)) ∧ Kp [] w0 w') := by
  refine enter (n := 10) Tryd.func15 rfl rfl rfl (fun ac F => ?_)
  have kp0 := Kp.refl ([] : List Nat) w0
  refine c_seq (fun K1 H2 => ?_)
  refine c_region ?_
  refine stpE F (f_box (cs := [.int .i64 (a 0), .int .i64 (a 1), .int .i64 (a 2), .int .i64 (a 3), .int .i64 (a 4), .int .i64 (a 5)]) rfl rfl) rfl rfl rfl ?_
  rintro _ w4 ac ⟨g3, rfl, nb6⟩ F
  have n7 := nb6.num
  have z8 := nb6.size
  have hsz := (nb6.kp).size
  replace kp0 := kp0.trans (nb6.kp) (by simp)
  have hb5 : Blk w4 g3 30 ([.int .i64 (a 0), .int .i64 (a 1), .int .i64 (a 2), .int .i64 (a 3), .int .i64 (a 4), .int .i64 (a 5)]) := nb6.blk
  refine stpE F (f_box (cs := [.int .i64 (b 0), .int .i64 (b 1), .int .i64 (b 2), .int .i64 (b 3), .int .i64 (b 4), .int .i64 (b 5)]) rfl rfl) rfl rfl rfl ?_
  rintro _ w10 ac ⟨g9, rfl, nb12⟩ F
  have n13 := nb12.num
  have z14 := nb12.size
  have hsz := (nb12.kp).size
  replace hb5 := hb5.keep (nb12.kp) (by simp)
  replace kp0 := kp0.trans (nb12.kp) (by simp)
  have hb11 : Blk w10 g9 30 ([.int .i64 (b 0), .int .i64 (b 1), .int .i64 (b 2), .int .i64 (b 3), .int .i64 (b 4), .int .i64 (b 5)]) := nb12.blk
  refine stp F (f_assign rfl) rfl rfl rfl (fun ac F => ?_)
  refine stpEnd ?_
  refine H2 _ _ ?_
  refine c_seq (fun K15 H16 => ?_)
  refine c_draw 6 (by rfl) (by decide +kernel) (fun wx => Kp [] w10 wx) (Kp.drew _) ?_
  refine tQ F rfl (fun wq hq => f_loadN rfl Tryd.isAgg30 Tryd.sizeOf30 (hb5.keep hq (by simp)).rdAll) rfl rfl rfl (fun ac F => ?_)
  refine tQ F rfl (fun wq hq => f_loadN rfl Tryd.isAgg30 Tryd.sizeOf30 (hb11.keep hq (by simp)).rdAll) rfl rfl rfl (fun ac F => ?_)
  refine tC F rfl (fun wq => f_call (P := Tryd.prog) (f := 29) (vs := [.agg #[.int .i64 (a 0), .int .i64 (a 1), .int .i64 (a 2), .int .i64 (a 3), .int .i64 (a 4), .int .i64 (a 5)], .agg #[.int .i64 (b 0), .int .i64 (b 1), .int .i64 (b 2), .int .i64 (b 3), .int .i64 (b 4), .int .i64 (b 5)]]) rfl Tryd.call29) (fun wq hq => (max_c a b wq).mono fun e w h => by cases e <;> first | exact ⟨h.1, hq.trans h.2 (by simp)⟩ | exact h.elim) rfl rfl rfl (fun ac F => ?_)
  refine tQ F rfl (fun wq hq => f_loadN rfl Tryd.isAgg30 Tryd.sizeOf30 (hb11.keep hq (by simp)).rdAll) rfl rfl rfl (fun ac F => ?_)
  refine tP F rfl (fun wq => f_eqVec (a := (mxK a b 6)) (b := b) rfl rfl) rfl rfl rfl (fun ac F => ?_)
  refine tP F rfl (fun wq => f_assign rfl) rfl rfl rfl (fun ac F => ?_)
  refine tEnd (fun w17 hq => ?_)
  have hsz := hq.size
  replace hb5 := hb5.keep hq (by simp)
  replace hb11 := hb11.keep hq (by simp)
  replace kp0 := kp0.trans hq (by simp)
  refine H16 _ _ ?_
  refine wp_ret ?_
  refine ret1 F rfl rfl ?_
  exact ⟨rfl, kp0⟩

set_option maxHeartbeats 4000000 in
theorem compare_c (a b : Nat → Int) (w0 : World) : Calls Tryd.prog 10 #[.agg #[.int .i64 (a 0), .int .i64 (a 1), .int .i64 (a 2), .int .i64 (a 3), .int .i64 (a 4), .int .i64 (a 5)], .agg #[.int .i64 (b 0), .int .i64 (b 1), .int .i64 (b 2), .int .i64 (b 3), .int .i64 (b 4), .int .i64 (b 5)]] w0 (Ret fun v w' => ∃ r : Int, v = .int .i64 r ∧ (r = 1 → EqV (mxK a b 6) b) ∧ Kp [] w0 w') := by
  refine enter (n := 17) Tryd.func10 rfl rfl rfl (fun ac F => ?_)
  have kp0 := Kp.refl ([] : List Nat) w0
  refine c_seq (fun K1 H2 => ?_)
  refine c_region ?_
  refine stpE F (f_box (cs := [.int .i64 (a 0), .int .i64 (a 1), .int .i64 (a 2), .int .i64 (a 3), .int .i64 (a 4), .int .i64 (a 5)]) rfl rfl) rfl rfl rfl ?_
  rintro _ w4 ac ⟨g3, rfl, nb6⟩ F
  have n7 := nb6.num
  have z8 := nb6.size
  have hsz := (nb6.kp).size
  replace kp0 := kp0.trans (nb6.kp) (by simp)
  have hb5 : Blk w4 g3 30 ([.int .i64 (a 0), .int .i64 (a 1), .int .i64 (a 2), .int .i64 (a 3), .int .i64 (a 4), .int .i64 (a 5)]) := nb6.blk
  refine stpE F (f_box (cs := [.int .i64 (b 0), .int .i64 (b 1), .int .i64 (b 2), .int .i64 (b 3), .int .i64 (b 4), .int .i64 (b 5)]) rfl rfl) rfl rfl rfl ?_
  rintro _ w10 ac ⟨g9, rfl, nb12⟩ F
  have n13 := nb12.num
  have z14 := nb12.size
  have hsz := (nb12.kp).size
  replace hb5 := hb5.keep (nb12.kp) (by simp)
  replace kp0 := kp0.trans (nb12.kp) (by simp)
  have hb11 : Blk w10 g9 30 ([.int .i64 (b 0), .int .i64 (b 1), .int .i64 (b 2), .int .i64 (b 3), .int .i64 (b 4), .int .i64 (b 5)]) := nb12.blk
  refine stp F (f_assign rfl) rfl rfl rfl (fun ac F => ?_)
  refine stpEnd ?_
  refine H2 _ _ ?_
  refine c_seq (fun K15 H16 => ?_)
  refine wp_block ?_
  refine c_seq (fun K17 H18 => ?_)
  refine c_region ?_
  refine stp F (f_loadN rfl Tryd.isAgg30 Tryd.sizeOf30 hb5.rdAll) rfl rfl rfl (fun ac F => ?_)
  refine stp F (f_loadN rfl Tryd.isAgg30 Tryd.sizeOf30 hb11.rdAll) rfl rfl rfl (fun ac F => ?_)
  refine stp F (f_eqVec (a := a) (b := b) rfl rfl) rfl rfl rfl (fun ac F => ?_)
  refine stp F (f_assign rfl) rfl rfl rfl (fun ac F => ?_)
  refine stpEnd ?_
  refine H18 _ _ ?_
  by_cases hc19 : EqV a b
  · have hc := hc19
    replace F := F.setb (k := 8) (b' := true) rfl (decide_eq_true hc)
    replace F := F.setb (k := 5) (b' := true) rfl (decide_eq_true hc)
    clear hc
    refine c_true F rfl ?_
    refine c_seq (fun K20 H21 => ?_)
    refine c_region ?_
    refine stp F (f_assign rfl) rfl rfl rfl (fun ac F => ?_)
    refine stpEnd ?_
    refine H21 _ _ ?_
    refine wp_ret ?_
    refine ret1 F rfl rfl ?_
    exact ⟨_, rfl, fun h => (by first | exact absurd h (by decide) | assumption), kp0⟩
  · have hc := hc19
    replace F := F.setb (k := 8) (b' := false) rfl (decide_eq_false hc)
    replace F := F.setb (k := 5) (b' := false) rfl (decide_eq_false hc)
    clear hc
    refine c_false F rfl ?_
    refine c_seq (fun K22 H23 => ?_)
    refine c_region ?_
    refine stp F (f_loadN rfl Tryd.isAgg30 Tryd.sizeOf30 hb5.rdAll) rfl rfl rfl (fun ac F => ?_)
    refine stp F (f_loadN rfl Tryd.isAgg30 Tryd.sizeOf30 hb11.rdAll) rfl rfl rfl (fun ac F => ?_)
    refine stpC F (f_call (P := Tryd.prog) (f := 15) (vs := [.agg #[.int .i64 (a 0), .int .i64 (a 1), .int .i64 (a 2), .int .i64 (a 3), .int .i64 (a 4), .int .i64 (a 5)], .agg #[.int .i64 (b 0), .int .i64 (b 1), .int .i64 (b 2), .int .i64 (b 3), .int .i64 (b 4), .int .i64 (b 5)]]) rfl Tryd.call15) (within_c a b _) rfl rfl rfl ?_
    rintro _ w24 ac ⟨rfl, kq25⟩ F
    have hsz := (kq25).size
    replace hb5 := hb5.keep (kq25) (by simp)
    replace hb11 := hb11.keep (kq25) (by simp)
    replace kp0 := kp0.trans (kq25) (by simp)
    refine stp F (f_assign rfl) rfl rfl rfl (fun ac F => ?_)
    refine stpEnd ?_
    refine H23 _ _ ?_
    by_cases hc26 : EqV (mxK a b 6) b
    · have hc := hc26
      replace F := F.setb (k := 12) (b' := true) rfl (decide_eq_true hc)
      replace F := F.setb (k := 9) (b' := true) rfl (decide_eq_true hc)
      clear hc
      refine c_true F rfl ?_
      refine c_seq (fun K27 H28 => ?_)
      refine c_region ?_
      refine stp F (f_assign rfl) rfl rfl rfl (fun ac F => ?_)
      refine stpEnd ?_
      refine H28 _ _ ?_
      refine wp_ret ?_
      refine ret1 F rfl rfl ?_
      exact ⟨_, rfl, fun h => (by first | exact absurd h (by decide) | assumption), kp0⟩
    · have hc := hc26
      replace F := F.setb (k := 12) (b' := false) rfl (decide_eq_false hc)
      replace F := F.setb (k := 9) (b' := false) rfl (decide_eq_false hc)
      clear hc
      refine c_false F rfl ?_
      refine c_seq (fun K29 H30 => ?_)
      refine c_region ?_
      refine stp F (f_loadN rfl Tryd.isAgg30 Tryd.sizeOf30 hb11.rdAll) rfl rfl rfl (fun ac F => ?_)
      refine stp F (f_loadN rfl Tryd.isAgg30 Tryd.sizeOf30 hb5.rdAll) rfl rfl rfl (fun ac F => ?_)
      refine stpC F (f_call (P := Tryd.prog) (f := 15) (vs := [.agg #[.int .i64 (b 0), .int .i64 (b 1), .int .i64 (b 2), .int .i64 (b 3), .int .i64 (b 4), .int .i64 (b 5)], .agg #[.int .i64 (a 0), .int .i64 (a 1), .int .i64 (a 2), .int .i64 (a 3), .int .i64 (a 4), .int .i64 (a 5)]]) rfl Tryd.call15) (within_c b a _) rfl rfl rfl ?_
      rintro _ w31 ac ⟨rfl, kq32⟩ F
      have hsz := (kq32).size
      replace hb5 := hb5.keep (kq32) (by simp)
      replace hb11 := hb11.keep (kq32) (by simp)
      replace kp0 := kp0.trans (kq32) (by simp)
      refine stp F (f_assign rfl) rfl rfl rfl (fun ac F => ?_)
      refine stpEnd ?_
      refine H30 _ _ ?_
      by_cases hc33 : EqV (mxK b a 6) a
      · have hc := hc33
        replace F := F.setb (k := 16) (b' := true) rfl (decide_eq_true hc)
        replace F := F.setb (k := 13) (b' := true) rfl (decide_eq_true hc)
        clear hc
        refine c_true F rfl ?_
        refine c_seq (fun K34 H35 => ?_)
        refine c_region ?_
        refine stp F (f_assign rfl) rfl rfl rfl (fun ac F => ?_)
        refine stpEnd ?_
        refine H35 _ _ ?_
        refine wp_ret ?_
        refine ret1 F rfl rfl ?_
        exact ⟨_, rfl, fun h => (by first | exact absurd h (by decide) | assumption), kp0⟩
      · have hc := hc33
        replace F := F.setb (k := 16) (b' := false) rfl (decide_eq_false hc)
        replace F := F.setb (k := 13) (b' := false) rfl (decide_eq_false hc)
        clear hc
        refine c_false F rfl ?_
        refine wp_skip ?_
        refine H16 _ _ ?_
        refine c_seq (fun K36 H37 => ?_)
        refine c_region ?_
        refine stp F (f_assign rfl) rfl rfl rfl (fun ac F => ?_)
        refine stpEnd ?_
        refine H37 _ _ ?_
        refine wp_ret ?_
        refine ret1 F rfl rfl ?_
        exact ⟨_, rfl, fun h => (by first | exact absurd h (by decide) | assumption), kp0⟩

end Go.Proofs.YtkbngaollbmcbaaDoor.KK

namespace Go.Proofs.YtkbngaollbmcbaaDoor.KK
open Go Go.RowKit
theorem str_eq (a b : ByteArray) : (a == b) = decide (a = b) := by
  obtain ⟨x⟩ := a
  obtain ⟨y⟩ := b
  show (x == y) = _
  rw [Bool.eq_iff_iff]
  simp
theorem run_eqMl (w : World) (x y : Ml) : (Op.equal 38 (mlV x) (mlV y)).run Tryd.prog w = .ok (decide (EqM x y)) w := by
  show (Op.equalIn (9999 + 1) 38 _ _).run Tryd.prog w = _
  rw [run_equalIn_struct w 9999 38 _ _ (by kernel_rfl) (by kernel_rfl)]
  obtain ⟨f0, f1, f2, hf, n0, n1, n2, t0, t1, t2, o0, o1, o2⟩ : ∃ f0 f1 f2 : Field, (Tryd.prog.fieldsOf 38).toList = [f0, f1, f2] ∧ (f0.name ≠ "_") ∧ (f1.name ≠ "_") ∧ (f2.name ≠ "_") ∧ f0.type = 3 ∧ f1.type = 30 ∧ f2.type = 9 ∧ f0.offset = 0 ∧ f1.offset = 1 ∧ f2.offset = 7 :=
    ⟨_, _, _, by rw [Program.fieldsOf, Tryd.underlying38], by decide, by decide, by decide, rfl, rfl, rfl, rfl, rfl, rfl⟩
  rw [hf]
  have p0 : ∀ m : Ml, (part 3 #[.int .i64 m.f, .int .i64 (m.a 0), .int .i64 (m.a 1), .int .i64 (m.a 2), .int .i64 (m.a 3), .int .i64 (m.a 4), .int .i64 (m.a 5), .string m.t] 0).run Tryd.prog w = .ok (.int .i64 m.f) w := fun m => run_part_plain w (by kernel_rfl) rfl
  have p2 : ∀ m : Ml, (part 9 #[.int .i64 m.f, .int .i64 (m.a 0), .int .i64 (m.a 1), .int .i64 (m.a 2), .int .i64 (m.a 3), .int .i64 (m.a 4), .int .i64 (m.a 5), .string m.t] 7).run Tryd.prog w = .ok (.string m.t) w := fun m => run_part_plain w (by kernel_rfl) rfl
  have p1 : ∀ m : Ml, (part 30 #[.int .i64 m.f, .int .i64 (m.a 0), .int .i64 (m.a 1), .int .i64 (m.a 2), .int .i64 (m.a 3), .int .i64 (m.a 4), .int .i64 (m.a 5), .string m.t] 1).run Tryd.prog w = .ok (vecV m.a) w := fun m => by kernel_rfl
  have e0 : (Op.equalIn 9999 3 (.int .i64 x.f) (.int .i64 y.f)).run Tryd.prog w = .ok (x.f == y.f) w := run_eqInt 9998 w _ _
  have e1 : (Op.equalIn 9999 30 (vecV x.a) (vecV y.a)).run Tryd.prog w = .ok (decide (EqV x.a y.a)) w := run_eqVec 9997 w _ _
  have e2 : (Op.equalIn 9999 9 (.string x.t) (.string y.t)).run Tryd.prog w = .ok (decide (x.t = y.t)) w := by rw [← str_eq]; exact run_eqStr 9998 w _ _
  unfold Op.eqFields
  rw [if_pos n0, t0, o0]
  simp only [Sem.run_bind, p0, Result.andThen_ok, e0]
  by_cases h0 : x.f = y.f
  · rw [if_neg (by simp [h0])]
    unfold Op.eqFields
    rw [if_pos n1, t1, o1]
    simp only [Sem.run_bind, p1, Result.andThen_ok, e1]
    by_cases h1 : EqV x.a y.a
    · rw [if_neg (by simp [h1])]
      unfold Op.eqFields
      rw [if_pos n2, t2, o2]
      simp only [Sem.run_bind, p2, Result.andThen_ok, e2]
      by_cases h2 : x.t = y.t
      · rw [if_neg (by simp [h2])]
        simp [Op.eqFields, EqM, h0, h1, h2]
      · rw [if_pos (by simpa using h2)]
        simp [EqM, h2]
    · rw [if_pos (by simpa using h1)]
      simp [EqM, h1]
  · rw [if_pos (by simpa using h0)]
    simp [EqM, h0]
section
variable {n : Nat} {l : List (Nat × Value)} {w : World}
theorem f_eqMl {x y : Operand} {d t u p e g} {a b : Ml} (hx : evl l x = some (mlV a)) (hy : evl l y = some (mlV b)) : Fires Tryd.prog ⟨d, .binOp .eql 38 x y t, u, p, e, g⟩ n l w (.bool (decide (EqM a b))) w := fun ac F => by
  have hg : Tryd.prog.eqGuardType Tryd.prog.depth 38 = false := by kernel_rfl
  simp only [execOp, F.eval hx, F.eval hy]
  simp [eqGuard, hg, binOp, run_eqMl]
theorem run_eqBool1 (d : Nat) (w : World) (a b : Bool) : (Op.equalIn (d + 1) 4 (.bool a) (.bool b)).run Tryd.prog w = .ok (a == b) w := by
  simp [Op.equalIn, run_underlying Tryd.underlying4]
theorem run_eqBool (w : World) (a b : Bool) : (Op.equal 4 (.bool a) (.bool b)).run Tryd.prog w = .ok (a == b) w := run_eqBool1 9999 w a b
theorem f_eqBool {x y : Operand} {d t u p e g} {a b : Bool} (hx : evl l x = some (.bool a)) (hy : evl l y = some (.bool b)) : Fires Tryd.prog ⟨d, .binOp .eql 4 x y t, u, p, e, g⟩ n l w (.bool (a == b)) w := fun ac F => by
  simp only [execOp, F.eval hx, F.eval hy]
  simp only [eqGuard, binOp, Sem.run_bind]
  simp [run_eqBool]
end
theorem rd_at {w : World} {ad : Addr} {m : Ml} (h : RdAt w ad 8 (mlV m)) : RdAt w (ad.add 1) 6 (vecV m.a) := by
  refine ⟨rfl, fun j u hu => ?_⟩
  rw [KK.add_add]
  refine h.2 (1 + j) u ?_
  have hj : j < 6 := (Array.getElem?_eq_some_iff.1 hu).1
  have : j = 0 ∨ j = 1 ∨ j = 2 ∨ j = 3 ∨ j = 4 ∨ j = 5 := by omega
  rcases this with rfl | rfl | rfl | rfl | rfl | rfl <;> exact hu
theorem grp_hold {p o : Nat} {me : Nat → Int} {s : Nat → Nat → Int} {R : Nat → Rw} (hp : p < 4) (ho : o = p * 8 + 7) : (grpL me s R)[o]? = some (R p).v := by
  subst ho
  rcases four hp with rfl | rfl | rfl | rfl <;> rfl
theorem EqM.refl (x : Ml) : EqM x x := ⟨rfl, fun _ _ => rfl, rfl⟩
/-- What is heard in turn. -/
abbrev roundK (t : Int) (n i : Nat) : Nat := (restN (t.tmod 100 + i) n).toNat
theorem gm_ext {sn : Nat → Nat → Int} {R : Nat → Rw} {G : Gm} (h1 : G.sn = sn) (h2 : ∀ r, (R r).vs = G.V r) : (⟨sn, Vs R⟩ : Gm) = G := by
  cases G with
  | mk s V => simp only at h1 h2; subst h1; congr 1; exact funext h2
end Go.Proofs.YtkbngaollbmcbaaDoor.KK
