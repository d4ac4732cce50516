/- What the proof leans on: rules for a walk through the code, walks of functions, and plain laws. No condition. -/
import Derived.Test.YtkbngaollbmcbaaDoorWc

namespace Go.Proofs.YtkbngaollbmcbaaDoor.KK
open Go Go.RowKit

/-! ### The group's laws, in plain Lean -/
/-- One after the other, each may be delivered. -/
def Chain : (Nat → Int) → List Ml → (Nat → Int) → Prop
  | s, [], s' => s' = s
  | s, m :: l, s' => Rdy s m ∧ 0 ≤ m.f ∧ m.f ≤ 5 ∧ Chain (bump s m) l s'
theorem Chain.append : ∀ {l l2 : List Ml} {s s1 s2 : Nat → Int}, Chain s l s1 → Chain s1 l2 s2 → Chain s (l ++ l2) s2
  | [], _, _, _, _, h, h2 => by cases h; exact h2
  | m :: l, _, _, _, _, h, h2 => ⟨h.1, h.2.1, h.2.2.1, Chain.append h.2.2.2 h2⟩
theorem bump_at {s : Nat → Int} {m : Ml} : bump s m m.f.toNat = s m.f.toNat + 1 := by unfold bump; exact upd_at
theorem bump_off {s : Nat → Int} {m : Ml} {i : Nat} (h : i ≠ m.f.toNat) : bump s m i = s i := by unfold bump; exact upd_off h
theorem bump_le (s : Nat → Int) (m : Ml) (i : Nat) : s i ≤ bump s m i := by
  by_cases h : i = m.f.toNat
  · subst h; rw [bump_at]; omega
  · rw [bump_off h]; omega
theorem Chain.le : ∀ {l : List Ml} {s s' : Nat → Int}, Chain s l s' → ∀ i, s i ≤ s' i
  | [], _, _, h, i => by cases h; exact Int.le_refl _
  | m :: l, s, _, h, i => Int.le_trans (bump_le s m i) (Chain.le h.2.2.2 i)
theorem Chain.len : ∀ {l : List Ml} {s s' : Nat → Int}, Chain s l s' → s' 0 + s' 1 + s' 2 + s' 3 + s' 4 + s' 5 = s 0 + s 1 + s 2 + s 3 + s 4 + s 5 + l.length
  | [], _, _, h => by cases h; simp
  | m :: l, s, s', h => by
    have ih := Chain.len h.2.2.2
    have h1 := h.2.1
    have h2 := h.2.2.1
    have hb : bump s m 0 + bump s m 1 + bump s m 2 + bump s m 3 + bump s m 4 + bump s m 5 = s 0 + s 1 + s 2 + s 3 + s 4 + s 5 + 1 := by
      have : m.f.toNat = 0 ∨ m.f.toNat = 1 ∨ m.f.toNat = 2 ∨ m.f.toNat = 3 ∨ m.f.toNat = 4 ∨ m.f.toNat = 5 := by omega
      unfold bump upd
      rcases this with e | e | e | e | e | e <;> rw [e] <;> simp <;> omega
    rw [ih, hb, List.length_cons]
    omega
/-- Where its number is at the end: from the start, or from a mail. -/
theorem Chain.num : ∀ {l : List Ml} {s s' : Nat → Int}, Chain s l s' → ∀ i : Nat, i < 6 → s' i = s i ∨ ∃ m ∈ l, m.f = i ∧ s' i = m.a i
  | [], _, _, h, i, _ => by cases h; exact .inl rfl
  | m :: l, s, s', h, i, hi => by
    rcases Chain.num h.2.2.2 i hi with h1 | ⟨x, hx, h2, h3⟩
    · by_cases e : i = m.f.toNat
      · refine .inr ⟨m, by simp, by have := h.2.1; omega, ?_⟩
        rw [h1, e, bump_at]
        have := (h.1 m.f.toNat (by omega)).1 (by have := h.2.1; omega)
        rw [this]
      · rw [bump_off e] at h1; exact .inl h1
    · exact .inr ⟨x, by simp [hx], h2, h3⟩
theorem Chain.rng : ∀ {l : List Ml} {s s' : Nat → Int}, Chain s l s' → ∀ m ∈ l, 0 ≤ m.f ∧ m.f ≤ 5
  | m :: l, s, s', h, x, hx => by
    rcases List.mem_cons.1 hx with rfl | hx
    · exact ⟨h.2.1, h.2.2.1⟩
    · exact Chain.rng h.2.2.2 x hx

theorem drain_spec : ∀ (n : Nat) (s : Nat → Int) (hold : List Ml) (m : Ml), hold.length = n → Drn s hold m →
    Chain s (drainN hold.length s hold m).2.2 (drainN hold.length s hold m).1 ∧
    (∀ i, i < 6 → 0 ≤ (drainN hold.length s hold m).1 i ∧ (drainN hold.length s hold m).1 i ≤ 16777215) ∧
    (∀ x ∈ (drainN hold.length s hold m).2.1, (drainN hold.length s hold m).1 x.f.toNat < x.a x.f.toNat ∧ ¬ Rdy (drainN hold.length s hold m).1 x) ∧
    (drainN hold.length s hold m).2.1.Sublist hold ∧ ((drainN hold.length s hold m).2.2 ++ (drainN hold.length s hold m).2.1).Perm (m :: hold) := by
  intro n
  induction n with
  | zero =>
    intro s hold m hn hD
    obtain rfl := List.eq_nil_of_length_eq_zero hn
    rw [drain_stop (fun i hi => absurd hi (by simp))]
    exact ⟨⟨hD.hm.2.2, hD.rng.1, hD.rng.2, rfl⟩, hD.bumped, by simp, List.Sublist.refl _, by simp⟩
  | succ n ih =>
    intro s hold m hn hD
    by_cases hx : ∃ k, k < hold.length ∧ Rdy (bump s m) (hold.getD k default)
    · obtain ⟨k, hk, h1, hmin⟩ : ∃ k, k < hold.length ∧ Rdy (bump s m) (hold.getD k default) ∧ ∀ i, i < k → ¬ Rdy (bump s m) (hold.getD i default) := by
        obtain ⟨k0, hk0, hr0⟩ := hx
        induction k0 using Nat.strongRecOn with
        | ind k0 ihk =>
          by_cases hy : ∃ i, i < k0 ∧ Rdy (bump s m) (hold.getD i default)
          · obtain ⟨i, hi, hri⟩ := hy; exact ihk i hi (by omega) hri
          · exact ⟨k0, hk0, hr0, fun i hi hr => hy ⟨i, hi, hr⟩⟩
      rw [drain_go hk h1 hmin]
      have he : (hold.eraseIdx k).length = n := by rw [List.length_eraseIdx_of_lt hk]; omega
      obtain ⟨c1, c2, c3, c4, c5⟩ := ih (bump s m) (hold.eraseIdx k) (hold.getD k default) he (hD.go hk h1)
      refine ⟨⟨hD.hm.2.2, hD.rng.1, hD.rng.2, c1⟩, c2, c3, c4.trans (List.eraseIdx_sublist _ _), ?_⟩
      have hg : hold.getD k default = hold[k] := by simp [hk]
      simp only [List.cons_append]
      refine List.Perm.cons _ (c5.trans ?_)
      rw [hg]
      rw [List.eraseIdx_eq_take_drop_succ]
      refine List.perm_middle.symm.trans (List.Perm.of_eq ?_)
      rw [← List.drop_eq_getElem_cons hk, List.take_append_drop]
    · have hno : ∀ i, i < hold.length → ¬ Rdy (bump s m) (hold.getD i default) := fun i hi hr => hx ⟨i, hi, hr⟩
      rw [drain_stop hno]
      refine ⟨⟨hD.hm.2.2, hD.rng.1, hD.rng.2, rfl⟩, hD.bumped, fun x hxm => ⟨hD.above x hxm, ?_⟩, List.Sublist.refl _, by simp⟩
      obtain ⟨i, hi, rfl⟩ := List.mem_iff_getElem.1 hxm
      have := hno i hi
      simpa [hi] using this

/-- What always holds of a group. -/
structure Inv (G : Gm) : Prop where
  valid : ∀ p : Nat, p < 4 → Valid p (G.sn p) (G.V p)
  cast : ∀ m ∈ G.V 4, Formed m ∧ ∃ q : Nat, q < 4 ∧ m.f = q ∧ ∀ i, i < 6 → m.a i ≤ G.sn q i
  dom : ∀ p q : Nat, p < 4 → q < 4 → G.sn p q ≤ G.sn q q
  hold : ∀ p : Nat, p < 4 → ∀ x ∈ G.V p, x ∈ G.V 4
  told : ∀ p : Nat, p < 4 → ∀ x ∈ G.V (5 + p), x ∈ G.V 4
  chain : ∀ p : Nat, p < 4 → Chain (fun _ => 0) (G.V (5 + p)) (G.sn p)
  len : ((G.V 4).length : Int) = G.sn 0 0 + G.sn 1 1 + G.sn 2 2 + G.sn 3 3
theorem Inv.init : Inv play0 :=
  ⟨fun p hp => ⟨by omega, fun _ _ => by simp [play0], by simp [play0], by simp [play0], by simp [play0]⟩, by simp [play0], fun _ _ _ _ => by simp [play0], by simp [play0], by simp [play0], fun _ _ => rfl, by simp [play0]⟩
theorem Inv.bnd {G : Gm} (h : Inv G) : ∀ m ∈ G.V 4, ∀ i, i < 6 → m.a i ≤ 16777215 := by
  intro m hm i hi
  obtain ⟨_, q, hq, _, h2⟩ := h.cast m hm
  have := h2 i hi
  have := ((h.valid q hq).hs i hi).2
  omega
theorem Inv.ok {G : Gm} (h : Inv G) : Ok G := by
  refine ⟨h.valid, fun m hm => ⟨(h.cast m hm).1, h.bnd m hm⟩, fun p hp x hx => h.bnd x (h.hold p hp x hx), ?_, fun p hp => ?_⟩
  · have := h.len
    have h0 := ((h.valid 0 (by omega)).hs 0 (by omega)).2
    have h1 := ((h.valid 1 (by omega)).hs 1 (by omega)).2
    have h2 := ((h.valid 2 (by omega)).hs 2 (by omega)).2
    have h3 := ((h.valid 3 (by omega)).hs 3 (by omega)).2
    omega
  · have := (h.chain p hp).len
    have h0 := ((h.valid p hp).hs 0 (by omega)).2
    have h1 := ((h.valid p hp).hs 1 (by omega)).2
    have h2 := ((h.valid p hp).hs 2 (by omega)).2
    have h3 := ((h.valid p hp).hs 3 (by omega)).2
    have h4 := ((h.valid p hp).hs 4 (by omega)).2
    have h5 := ((h.valid p hp).hs 5 (by omega)).2
    omega

theorem Inv.casts {G : Gm} (h : Inv G) {p : Nat} (hp : p < 4) : Inv (castG G p) := by
  unfold castG
  split
  · exact h
  rename_i he
  have hlt : G.sn p p < 16777215 := by
    by_cases hb : G.sn p p < 16777215
    · exact hb
    · exact absurd (by unfold castK castR; rw [if_neg (by simpa using hb)]) he
  have hs : (castK G p).s = upd (G.sn p) p (G.sn p p + 1) := by unfold castK castR; simp [hlt]
  have hm : (castK G p).m = ⟨p, upd (G.sn p) p (G.sn p p + 1), itoaB (G.V 4).length⟩ := by unfold castK castR; simp [hlt]
  rw [hs, hm]
  generalize hM : (⟨p, upd (G.sn p) p (G.sn p p + 1), itoaB (G.V 4).length⟩ : Ml) = M
  have hf : M.f = p := by rw [← hM]
  have ha : M.a = upd (G.sn p) p (G.sn p p + 1) := by rw [← hM]
  have hv := h.valid p hp
  have hS : ∀ q, upd G.sn p (upd (G.sn p) p (G.sn p p + 1)) q p = if q = p then G.sn p p + 1 else G.sn q p := fun q => by
    by_cases e : q = p
    · subst e; rw [upd_at, upd_at, if_pos rfl]
    · rw [upd_off e, if_neg e]
  have hS2 : ∀ q i, i ≠ p → upd G.sn p (upd (G.sn p) p (G.sn p p + 1)) q i = G.sn q i := fun q i hi => by
    by_cases e : q = p
    · subst e; rw [upd_at, upd_off hi]
    · rw [upd_off e]
  have hge : ∀ q i, G.sn q i ≤ upd G.sn p (upd (G.sn p) p (G.sn p p + 1)) q i := fun q i => by
    by_cases e : i = p
    · subst e; rw [hS]; split
      · rename_i e2; subst e2; omega
      · omega
    · rw [hS2 q i e]; omega
  have hVh : ∀ q, q < 4 → upd (upd G.V 4 (G.V 4 ++ [M])) (5 + p) (G.V (5 + p) ++ [M]) q = G.V q := fun q hq => by rw [upd_off (by omega), upd_off (by omega)]
  have hV4 : upd (upd G.V 4 (G.V 4 ++ [M])) (5 + p) (G.V (5 + p) ++ [M]) 4 = G.V 4 ++ [M] := by rw [upd_off (by omega), upd_at]
  have hFm : Formed M := ⟨by omega, by omega, fun i hi => by
    rw [ha]; by_cases e : i = p
    · subst e; rw [upd_at]; have := (hv.hs i hi).1; omega
    · rw [upd_off e]; exact (hv.hs i hi).1, by rw [hf, ha]; show 0 < upd (G.sn p) p _ (Int.toNat p); rw [Int.toNat_natCast, upd_at]; have := (hv.hs p (by omega)).1; omega⟩
  constructor
  · intro q hq
    simp only
    rw [hVh q hq]
    by_cases e : q = p
    · subst e
      rw [upd_at]
      refine ⟨hv.hme, fun i hi => ?_, hv.len, fun x hx => ?_, hv.pair⟩
      · by_cases e : i = q
        · subst e; rw [upd_at]; have := (hv.hs i hi).1; omega
        · rw [upd_off e]; exact hv.hs i hi
      · obtain ⟨h1, h2, h3, h4⟩ := hv.all x hx
        have hne : x.f.toNat ≠ q := by have := h1.1; omega
        refine ⟨h1, h2, by rw [upd_off hne]; exact h3, fun hr => h4 fun i hi => ?_⟩
        have := hr i hi
        by_cases e : i = q
        · subst e
          refine ⟨fun e2 => absurd e2.symm h2, fun _ => ?_⟩
          obtain ⟨_, r, hr4, hrf, hra⟩ := h.cast x (h.hold i hq x hx)
          have h5 := hra i hi
          have h6 := h.dom r i hr4 hq
          omega
        · unfold Rdy1 at this ⊢; rw [upd_off e] at this; exact this
    · rw [upd_off e]; exact h.valid q hq
  · intro x hx
    simp only at hx
    rw [hV4] at hx
    rcases List.mem_append.1 hx with hx | hx
    · obtain ⟨h1, q, h2, h3, h4⟩ := h.cast x hx
      exact ⟨h1, q, h2, h3, fun i hi => Int.le_trans (h4 i hi) (hge q i)⟩
    · simp at hx; subst hx
      refine ⟨hFm, p, hp, hf, fun i hi => ?_⟩
      simp only
      rw [ha, upd_at]; exact Int.le_refl _
  · intro q r hq hr
    simp only
    by_cases e : r = p
    · subst e
      rw [hS, hS]
      have := h.dom q r hq hr
      rw [if_pos rfl]; split
      · omega
      · omega
    · rw [hS2 q r e, hS2 r r e]; exact h.dom q r hq hr
  · intro q hq x hx
    simp only at hx ⊢
    rw [hVh q hq] at hx; rw [hV4]
    exact List.mem_append_left _ (h.hold q hq x hx)
  · intro q hq x hx
    simp only at hx ⊢
    rw [hV4]
    by_cases e : q = p
    · subst e; rw [upd_at] at hx
      rcases List.mem_append.1 hx with hx | hx
      · exact List.mem_append_left _ (h.told q hq x hx)
      · exact List.mem_append_right _ hx
    · rw [upd_off (by omega), upd_off (by omega)] at hx
      exact List.mem_append_left _ (h.told q hq x hx)
  · intro q hq
    simp only
    by_cases e : q = p
    · subst e; rw [upd_at, upd_at]
      refine (h.chain q hq).append ⟨fun i hi => ?_, by omega, by omega, ?_⟩
      · refine ⟨fun e => ?_, fun e => ?_⟩
        · have : i = q := by omega
          subst this; rw [ha, upd_at]
        · have : i ≠ q := by omega
          rw [ha, upd_off this]; exact Int.le_refl _
      · show _ = bump _ _
        unfold bump; rw [hf, Int.toNat_natCast]
    · rw [upd_off (by omega), upd_off (by omega), upd_off e]; exact h.chain q hq
  · simp only
    rw [hV4]
    have hl := h.len
    have hd : ∀ q : Nat, q < 4 → upd G.sn p (upd (G.sn p) p (G.sn p p + 1)) q q = G.sn q q + if q = p then 1 else 0 := fun q hq => by
      by_cases e : q = p
      · subst e; rw [hS]; simp
      · rw [hS2 q q e]; simp [e]
    rw [hd 0 (by omega), hd 1 (by omega), hd 2 (by omega), hd 3 (by omega), List.length_append, List.length_singleton]
    have := four hp
    rcases this with rfl | rfl | rfl | rfl <;> simp <;> omega

theorem Inv.put {G : Gm} (h : Inv G) {p : Nat} (hp : p < 4) {s' : Nat → Int} {hold' out : List Ml} (hv : Valid p s' hold') (hc : Chain (G.sn p) out s') (hh : ∀ x ∈ hold', x ∈ G.V 4) (ho : ∀ x ∈ out, x ∈ G.V 4 ∧ ¬ x.f = p) :
    Inv ⟨upd G.sn p s', upd (upd G.V p hold') (5 + p) (G.V (5 + p) ++ out)⟩ := by
  have hpp : s' p = G.sn p p := by
    rcases hc.num p (by omega) with e | ⟨m, hm, e, _⟩
    · exact e
    · exact absurd e (ho m hm).2
  have hge := hc.le
  have hV4 : upd (upd G.V p hold') (5 + p) (G.V (5 + p) ++ out) 4 = G.V 4 := by rw [upd_off (by omega), upd_off (by omega)]
  have hqq : ∀ q, upd G.sn p s' q q = G.sn q q := fun q => by
    by_cases e : q = p
    · subst e; rw [upd_at, hpp]
    · rw [upd_off e]
  constructor
  · intro q hq
    simp only
    by_cases e : q = p
    · subst e; rw [upd_at, upd_off (by omega), upd_at]; exact hv
    · rw [upd_off e, upd_off (by omega), upd_off e]; exact h.valid q hq
  · intro x hx
    simp only at hx; rw [hV4] at hx
    obtain ⟨h1, q, h2, h3, h4⟩ := h.cast x hx
    refine ⟨h1, q, h2, h3, fun i hi => Int.le_trans (h4 i hi) ?_⟩
    simp only
    by_cases e : q = p
    · subst e; rw [upd_at]; exact hge i
    · rw [upd_off e]; exact Int.le_refl _
  · intro q r hq hr
    simp only
    rw [hqq r]
    by_cases e : q = p
    · subst e; rw [upd_at]
      rcases hc.num r (by omega) with e2 | ⟨m, hm, e2, e3⟩
      · rw [e2]; exact h.dom q r hq hr
      · rw [e3]
        obtain ⟨_, t, ht, hmf, hma⟩ := h.cast m (ho m hm).1
        have : t = r := by omega
        subst this
        exact hma t (by omega)
    · rw [upd_off e]; exact h.dom q r hq hr
  · intro q hq x hx
    simp only at hx ⊢
    rw [hV4]
    by_cases e : q = p
    · subst e; rw [upd_off (by omega), upd_at] at hx; exact hh x hx
    · rw [upd_off (by omega), upd_off e] at hx; exact h.hold q hq x hx
  · intro q hq x hx
    simp only at hx ⊢
    rw [hV4]
    by_cases e : q = p
    · subst e; rw [upd_at] at hx
      rcases List.mem_append.1 hx with hx | hx
      · exact h.told q hq x hx
      · exact (ho x hx).1
    · rw [upd_off (by omega), upd_off (by omega)] at hx; exact h.told q hq x hx
  · intro q hq
    simp only
    by_cases e : q = p
    · subst e; rw [upd_at, upd_at]; exact (h.chain q hq).append hc
    · rw [upd_off (by omega), upd_off (by omega), upd_off e]; exact h.chain q hq
  · simp only
    rw [hV4, hqq, hqq, hqq, hqq]; exact h.len
theorem Inv.drn {G : Gm} (h : Inv G) {p : Nat} (hp : p < 4) {m : Ml} (hm : m ∈ G.V 4) (hn : ¬ HasSame (G.V p) m) (hr : Rdy (G.sn p) m) : Drn (G.sn p) (G.V p) m :=
  ⟨⟨(h.cast m hm).1, h.bnd m hm, hr⟩, (h.valid p hp).hs, fun x hx => ⟨((h.valid p hp).all x hx).1, h.bnd x (h.hold p hp x hx), ((h.valid p hp).all x hx).2.2.1⟩,
    List.pairwise_cons.2 ⟨fun x hx hs => hn ⟨x, hx, hs.1.symm, hs.2.symm⟩, (h.valid p hp).pair⟩⟩
theorem Inv.hears {G : Gm} (h : Inv G) {p k : Nat} (hp : p < 4) (hk : k < (G.V 4).length) : Inv (hearG G p k) := by
  unfold hearG
  split
  · exact h
  rename_i he
  have hin : (G.V 4).getD k default ∈ G.V 4 := getD_in hk
  generalize hM : (G.V 4).getD k default = M at he hin ⊢
  have hv := h.valid p hp
  unfold hearR at he ⊢
  unfold hearN at he ⊢
  split
  · rename_i hr; rw [hr] at he; exact absurd rfl he
  · rename_i r hr
    clear he
    split at hr
    · injection hr with hr; subst hr
      exact h.put hp hv rfl (h.hold p hp) (by simp)
    · rename_i hnn
      have hnf : ¬ M.f = p := fun e => hnn (.inl e)
      have hna : ¬ M.a M.f.toNat ≤ G.sn p M.f.toNat := fun e => hnn (.inr (.inl e))
      have hns : ¬ HasSame (G.V p) M := fun e => hnn (.inr (.inr e))
      split at hr
      · rename_i hnr
        split at hr
        · cases hr
        · rename_i h40
          injection hr with hr; subst hr
          refine h.put hp ⟨hv.hme, hv.hs, by have := hv.len; simp; omega, fun x hx => ?_, ?_⟩ rfl (fun x hx => ?_) (by simp)
          · rcases List.mem_append.1 hx with hx | hx
            · exact hv.all x hx
            · simp at hx; subst hx
              exact ⟨(h.cast _ hin).1, hnf, Int.not_le.1 hna, hnr⟩
          · refine List.pairwise_append.2 ⟨hv.pair, by simp, fun x hx y hy hs => ?_⟩
            simp at hy; subst hy
            exact hns ⟨x, hx, hs⟩
          · rcases List.mem_append.1 hx with hx | hx
            · exact h.hold p hp x hx
            · simp at hx; subst hx; exact hin
      · rename_i hrd
        have hrd := Decidable.not_not.1 hrd
        injection hr with hr; subst hr
        have hD := h.drn hp hin hns hrd
        obtain ⟨c1, c2, c3, c4, c5⟩ := drain_spec _ _ _ _ rfl hD
        have hmem : ∀ x ∈ (drainN (G.V p).length (G.sn p) (G.V p) M).2.2, x ∈ G.V 4 ∧ ¬ x.f = p := fun x hx => by
          have := c5.mem_iff.1 (List.mem_append_left _ hx)
          rcases List.mem_cons.1 this with rfl | h1
          · exact ⟨hin, hnf⟩
          · exact ⟨h.hold p hp x h1, (hv.all x h1).2.1⟩
        refine h.put hp ⟨hv.hme, c2, Nat.le_trans c4.length_le hv.len, fun x hx => ?_, hv.pair.sublist c4⟩ c1 (fun x hx => h.hold p hp x (c4.subset hx)) hmem
        have := hv.all x (c4.subset hx)
        exact ⟨this.1, this.2.1, (c3 x hx).1, (c3 x hx).2⟩
theorem Inv.steps {G : Gm} (h : Inv G) (x : Pst) : Inv (stepG G x) := by
  unfold stepG
  obtain ⟨p, hp, _, hpn⟩ := who4 x.who
  rw [hpn]
  split
  · exact h.casts hp
  · split
    · exact h
    · rename_i h4
      have := restN_rng x.n (n := ((G.V 4).length : Int)) (by omega)
      exact h.hears hp (by omega)
theorem Inv.fold : ∀ (ps : List Pst) {G : Gm}, Inv G → Inv (ps.foldl stepG G)
  | [], _, h => h
  | x :: ps, _, h => Inv.fold ps (h.steps x)
theorem Inv.play (ps : List Pst) : Inv (playN ps) := Inv.fold ps Inv.init
theorem ok_take (ps : List Pst) : ∀ k, Ok ((ps.take k).foldl stepG play0) := fun k => (Inv.fold (ps.take k) Inv.init).ok
end Go.Proofs.YtkbngaollbmcbaaDoor.KK

namespace Go.Proofs.YtkbngaollbmcbaaDoor.KK
open Go Go.RowKit

/-- How many of a sender's. -/
def cntF (f : Nat) (l : List Ml) : Nat := l.countP (fun m => decide (m.f = (f : Int)))
theorem cnt_take {f k : Nat} {l : List Ml} (hk : k < l.length) : cntF f (l.take (k + 1)) = cntF f (l.take k) + if (l.getD k default).f = (f : Int) then 1 else 0 := by
  unfold cntF
  rw [List.take_add_one, List.countP_append]
  simp [hk]
theorem Chain.cnt : ∀ {l : List Ml} {s s' : Nat → Int}, Chain s l s' → ∀ f : Nat, s' f = s f + cntF f l
  | [], _, _, h, f => by cases h; simp [cntF]
  | m :: l, s, s', h, f => by
    rw [Chain.cnt h.2.2.2 f]
    unfold cntF
    rw [List.countP_cons]
    by_cases e : m.f = (f : Int)
    · have hfe : m.f.toNat = f := by omega
      rw [show bump s m f = s f + 1 from by rw [← hfe, bump_at]]
      simp [e]; omega
    · have : f ≠ m.f.toNat := by have := h.2.1; omega
      rw [bump_off this]; simp [e]
theorem Chain.at_ : ∀ {l : List Ml} {s s' : Nat → Int}, Chain s l s' → ∀ (f k : Nat), k < l.length → (l.getD k default).f = (f : Int) → f < 6 → (l.getD k default).a f = s f + cntF f (l.take k) + 1
  | m :: l, s, s', h, f, 0, _, e, hf => by
    simp at e ⊢
    rw [(h.1 f hf).1 e.symm]; simp [cntF]
  | m :: l, s, s', h, f, k + 1, hk, e, hf => by
    have ih := Chain.at_ h.2.2.2 f k (by simpa using hk) (by simpa using e) hf
    simp only [List.getD_cons_succ, List.take_succ_cons] at ih ⊢
    rw [ih]
    unfold cntF
    rw [List.countP_cons]
    by_cases e2 : m.f = (f : Int)
    · have hfe : m.f.toNat = f := by omega
      rw [show bump s m f = s f + 1 from by rw [← hfe, bump_at]]
      simp [e2]; omega
    · have : f ≠ m.f.toNat := by have := h.2.1; omega
      rw [bump_off this]; simp [e2]
instance (x : Int) : Decidable (i64 x) := inferInstanceAs (Decidable (_ ∧ _))
instance (x : Pst) : Decidable x.ok := inferInstanceAs (Decidable (_ ∧ _ ∧ _))
abbrev psC (x : Pst) : List Value := [.int .i64 x.kind, .int .i64 x.who, .int .i64 x.n]
theorem ps_sl {w : World} {g : Nat} {ps : List Pst} {cs : List Value} (h : Blk w g 27 cs) (hc : cs = flatV (ps.map psV)) (hl : ps.length ≤ 1000) : Sl w 0 w.heap.size 3 (some ⟨g, 0, none⟩) ps.length ps.length (fun i => psV (ps.getD i default)) := by
  have h3 : ∀ v ∈ ps.map psV, v.cells.size = 3 := by intro v hv; obtain ⟨x, _, rfl⟩ := List.mem_map.1 hv; rfl
  have ho : Own w 0 27 3 (some ⟨g, 0, none⟩) ps.length (ps.map psV) := Own.shuts (Nat.zero_le _) h (by unfold maxLen; omega) (by rw [hc, flatV_len h3]; simp) (by rw [hc]; rw [List.take_of_length_le (by rw [flatV_len h3]; simp)]) h3 (by simp)
  have := ho.sl (f := fun i => psV (ps.getD i default)) (fun i v hv => by simp at hv; obtain ⟨x, hx, rfl⟩ := hv; simp [hx])
  simpa using this
abbrev line0 : List Pst := [⟨0, 0, 0⟩, ⟨0, 0, 0⟩, ⟨1, 1, 1⟩]
theorem line0_told : ((playN line0).V 6).length = 0 := by decide +kernel
theorem line0_hold : ((playN line0).V 1).length = 1 := by decide +kernel
abbrev all0 : List Pst := [⟨0, 0, 0⟩]
theorem all0_cast : ((playN all0).V 4).length = 1 := by decide +kernel
theorem all0_at : ∀ i, i < 6 → (((playN all0).V 4).getD 0 default).a i = if i = 0 then 1 else 0 := by decide +kernel
abbrev order0 : List Pst := [⟨0, 0, 0⟩, ⟨1, 1, 0⟩, ⟨0, 1, 0⟩, ⟨1, 2, 1⟩, ⟨1, 2, 0⟩]
theorem order0_told : ((playN order0).V 7).length = 2 := by decide +kernel
theorem order0_from : (((playN order0).V 7).getD 0 default).f = 0 := by decide +kernel
end Go.Proofs.YtkbngaollbmcbaaDoor.KK
