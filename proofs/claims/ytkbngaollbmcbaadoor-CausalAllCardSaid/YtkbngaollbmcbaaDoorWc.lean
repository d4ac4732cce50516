/- What the proof leans on: rules for a walk through the code, walks of functions, and plain laws. No condition. -/
import Derived.Test.YtkbngaollbmcbaaDoorKc
import Derived.Test.YtkbngaollbmcbaaDoorWb

namespace Go.Proofs.YtkbngaollbmcbaaDoor.KK
open Go Go.RowKit

/-! ### Steps among what may move: an append; a call that has nothing to add -/
section
variable {P : Program} {n : Nat} {l : List (Nat × Value)} {w w' : World}
theorem wpG_anti {L : List Oper} {B : World → Prop} {M : List Nat} {N : Nat} {κ : Nat → Kg} {Q : Exit → Act → World → Prop} {tl : List Nat} : ∀ (r : List Nat), Anti N (wpG P L B M N κ Q tl r)
  | [] => fun C C' a _ hs h w hw => h w (hs w hw)
  | i :: r => gOp1_anti (wpG_anti r)
theorem wpG_sub {L : List Oper} {B C D : World → Prop} {M : List Nat} {N : Nat} {κ : Nat → Kg} {Q : Exit → Act → World → Prop} {tl r : List Nat} {a : Act} (hC : Gd N C) (hs : ∀ w, C w → D w) (h : wpG P L B M N κ Q tl r D a) : wpG P L B M N κ Q tl r C a := wpG_anti r D C a hC hs h
end

/-! ### What a group of four processes is in memory -/
structure Rw where
  A : Option Addr
  c : Nat
  vs : List Ml
abbrev Rw.v (r : Rw) : Value := .slice r.A r.vs.length r.c
abbrev csx (me : Nat → Int) (s : Nat → Nat → Int) (R : Nat → Rw) (p : Nat) : List Value := csC (me p) (s p) (R p).A (R p).vs.length (R p).c
/-- Its 37 cells: four processes, the mails that were cast, what each was told. -/
def grpL (me : Nat → Int) (s : Nat → Nat → Int) (R : Nat → Rw) : List Value := csx me s R 0 ++ csx me s R 1 ++ csx me s R 2 ++ csx me s R 3 ++ [(R 4).v, (R 5).v, (R 6).v, (R 7).v, (R 8).v]
theorem grpL_len {me : Nat → Int} {s : Nat → Nat → Int} {R : Nat → Rw} : (grpL me s R).length = 37 := rfl
theorem four {p : Nat} (hp : p < 4) : p = 0 ∨ p = 1 ∨ p = 2 ∨ p = 3 := by omega
theorem grp_rd {w : World} {g p o : Nat} {me : Nat → Int} {s : Nat → Nat → Int} {R : Nat → Rw} (h : Blk w g 36 (grpL me s R)) (hp : p < 4) (ho : o = p * 8) : RdAt w ⟨g, o, none⟩ 8 (.agg (csx me s R p).toArray) := by
  subst ho
  refine h.rd (by rfl) (fun j u hu => ?_)
  simp only [Value.cells, List.getElem?_toArray] at hu
  have hj : j < 8 := (List.getElem?_eq_some_iff.1 hu).1
  rcases four hp with rfl | rfl | rfl | rfl <;> (have : j = 0 ∨ j = 1 ∨ j = 2 ∨ j = 3 ∨ j = 4 ∨ j = 5 ∨ j = 6 ∨ j = 7 := by omega) <;> rcases this with rfl | rfl | rfl | rfl | rfl | rfl | rfl | rfl <;> exact hu
theorem grp_told {p o : Nat} {me : Nat → Int} {s : Nat → Nat → Int} {R : Nat → Rw} (hp : p < 4) (ho : o = 33 + p * 1) : (grpL me s R)[o]? = some (R (5 + p)).v := by
  subst ho
  rcases four hp with rfl | rfl | rfl | rfl <;> rfl
theorem grp_seen {p q o : Nat} {me : Nat → Int} {s : Nat → Nat → Int} {R : Nat → Rw} (hp : p < 4) (hq : q < 6) (ho : o = p * 8 + 1 + q * 1) : (grpL me s R)[o]? = some (.int .i64 (s p q)) := by
  subst ho
  rcases four hp with rfl | rfl | rfl | rfl <;> (have : q = 0 ∨ q = 1 ∨ q = 2 ∨ q = 3 ∨ q = 4 ∨ q = 5 := by omega) <;> rcases this with rfl | rfl | rfl | rfl | rfl | rfl <;> rfl
theorem grp_putC {p o : Nat} {me : Nat → Int} {s : Nat → Nat → Int} {R : Nat → Rw} {m' : Int} {s' : Nat → Int} {r : Rw} (hp : p < 4) (ho : o = p * 8) : lay (grpL me s R) o (csC m' s' r.A r.vs.length r.c) = grpL (upd me p m') (upd s p s') (upd R p r) := by
  subst ho
  rcases four hp with rfl | rfl | rfl | rfl <;> rfl
theorem grp_putM {p o : Nat} {me : Nat → Int} {s : Nat → Nat → Int} {R : Nat → Rw} {m' : Int} (hp : p < 4) (ho : o = p * 8) : lay (grpL me s R) o [.int .i64 m'] = grpL (upd me p m') s R := by
  subst ho
  rcases four hp with rfl | rfl | rfl | rfl <;> rfl
theorem grp_put4 {me : Nat → Int} {s : Nat → Nat → Int} {R : Nat → Rw} {r : Rw} : lay (grpL me s R) 32 [r.v] = grpL me s (upd R 4 r) := rfl
theorem grp_put5 {p o : Nat} {me : Nat → Int} {s : Nat → Nat → Int} {R : Nat → Rw} {r : Rw} (hp : p < 4) (ho : o = 33 + p * 1) : lay (grpL me s R) o [r.v] = grpL me s (upd R (5 + p) r) := by
  subst ho
  rcases four hp with rfl | rfl | rfl | rfl <;> rfl
theorem upd_same {α : Type} {s : Nat → α} {i : Nat} {v : α} (h : v = s i) : upd s i v = s := by
  funext j; unfold upd; split
  · subst_vars; rfl
  · rfl
theorem upd_at {α : Type} {s : Nat → α} {i : Nat} {v : α} : upd s i v i = v := by unfold upd; rw [if_pos rfl]
theorem upd_off {α : Type} {s : Nat → α} {i j : Nat} {v : α} (h : j ≠ i) : upd s i v j = s j := by unfold upd; rw [if_neg h]

/-- Nine rows of the call's own, each in a block of its own. -/
structure Rows (w : World) (base g : Nat) (R : Nat → Rw) : Prop where
  own : ∀ r, r < 9 → Own w base 38 8 (R r).A (R r).c ((R r).vs.map mlV)
  off : ∀ r, r < 9 → ∀ x ∈ ob (R r).A, x ≠ g
  two : ∀ r q, r < 9 → q < 9 → r ≠ q → ∀ x ∈ ob (R r).A, x ∉ ob (R q).A
  lt : base ≤ g ∧ g < w.heap.size
theorem Rows.keep {w w' : World} {base g : Nat} {R : Nat → Rw} {M : List Nat} (h : Rows w base g R) (k : Kp M w w') (hM : ∀ r, r < 9 → ∀ x ∈ ob (R r).A, x ∉ M) : Rows w' base g R :=
  ⟨fun r hr => (h.own r hr).keep k (hM r hr), h.off, h.two, h.lt.1, Nat.lt_of_lt_of_le h.lt.2 k.size⟩
theorem Rows.nil {w w' : World} {base g : Nat} {R : Nat → Rw} (h : Rows w base g R) (k : Kp [] w w') : Rows w' base g R := h.keep k (by simp)
theorem Rows.atg {w w' : World} {base g : Nat} {R : Nat → Rw} (h : Rows w base g R) (k : Kp [g] w w') : Rows w' base g R := h.keep k (fun r hr x hx hm => by simp at hm; exact h.off r hr x hx hm)
/-- One row comes anew. -/
theorem Rows.put {w w' : World} {base g r : Nat} {R : Nat → Rw} {x : Rw} {M : List Nat} (h : Rows w base g R) (hr : r < 9) (k : Kp M w w') (hM : ∀ y ∈ M, y ∈ ob (R r).A) (ho : Own w' base 38 8 x.A x.c (x.vs.map mlV)) (hn : ∀ y ∈ ob x.A, y ∈ ob (R r).A ∨ w.heap.size ≤ y) : Rows w' base g (upd R r x) := by
  have hlt : ∀ q, q < 9 → ∀ y ∈ ob (R q).A, y < w.heap.size := fun q hq y hy => ((h.own q hq).base_le y hy).2
  refine ⟨fun q hq => ?_, fun q hq y hy => ?_, fun q q2 hq hq2 hne y hy hy2 => ?_, h.lt.1, Nat.lt_of_lt_of_le h.lt.2 k.size⟩
  · by_cases e : q = r
    · subst e; rw [upd_at]; exact ho
    · rw [upd_off e]; exact (h.own q hq).keep k (fun y hy hm => h.two q r hq hr e y hy (hM y hm))
  · by_cases e : q = r
    · subst e; rw [upd_at] at hy
      rcases hn y hy with h1 | h1
      · exact h.off _ hr y h1
      · have := h.lt.2; omega
    · rw [upd_off e] at hy; exact h.off q hq y hy
  · by_cases e : q = r
    · subst e
      rw [upd_at] at hy; rw [upd_off (Ne.symm hne)] at hy2
      rcases hn y hy with h1 | h1
      · exact h.two _ _ hr hq2 hne y h1 hy2
      · have := hlt _ hq2 y hy2; omega
    · rw [upd_off e] at hy
      by_cases e2 : q2 = r
      · subst e2; rw [upd_at] at hy2
        rcases hn y hy2 with h1 | h1
        · exact h.two _ _ hq hr hne y hy h1
        · have := hlt _ hq y hy; omega
      · rw [upd_off e2] at hy2; exact h.two _ _ hq hq2 hne y hy hy2
theorem Rows.app {w w' : World} {base g r : Nat} {R : Nat → Rw} {A' : Option Addr} {c' : Nat} {vs' : List Ml} (h : Rows w base g R) (hr : r < 9) (k : Kp (ob (R r).A) w w') (ho : Own w' base 38 8 A' c' (vs'.map mlV)) (hn : ob A' = ob (R r).A ∨ ob A' = [w.heap.size]) : Rows w' base g (upd R r ⟨A', c', vs'⟩) :=
  h.put hr k (fun _ h => h) ho (fun y hy => by rcases hn with e | e <;> simp only [e] at hy; exact .inl hy; simp at hy; exact .inr (by omega))
theorem Rows.new {w w' : World} {base g r : Nat} {R : Nat → Rw} {A' : Option Addr} {c' : Nat} {vs' : List Ml} (h : Rows w base g R) (hr : r < 9) (k : Kp [] w w') (ho : Own w' w.heap.size 38 8 A' c' (vs'.map mlV)) : Rows w' base g (upd R r ⟨A', c', vs'⟩) :=
  h.put hr k (by simp) (ho.more (by have := h.lt; omega)) (fun y hy => .inr (ho.base_le y hy).1)

theorem Rows.lt9 {w : World} {base g : Nat} {R : Nat → Rw} (h : Rows w base g R) : ∀ r, r < 9 → ∀ x ∈ ob (R r).A, x < w.heap.size := fun r hr x hx => ((h.own r hr).base_le x hx).2
theorem Own.ne {w : World} {base sz c g : Nat} {e T : TypeId} {A : Option Addr} {vs cs : List Value} (h : Own w base e sz A c vs) (hb : Blk w g T cs) (hne : e ≠ T) : ∀ x ∈ ob A, x ≠ g := by
  rintro x hx rfl
  rcases h.1.2 with ⟨hv, _⟩ | ⟨g', cap, cur, hv, _, hh, _⟩
  · injection hv with hA; subst hA; simp [ob] at hx
  · injection hv with hA; subst hA; simp [ob] at hx; subst hx
    unfold Blk at hb
    rw [hb] at hh
    simp at hh
    exact hne hh.2.symm
theorem Blk.eqv {w : World} {g : Nat} {t : TypeId} {cs cs' : List Value} (h : Blk w g t cs) (e : cs = cs') : Blk w g t cs' := e ▸ h
/-- append of a row of mails to a row of mails. -/
theorem f_appendM {n : Nat} {l : List (Nat × Value)} {w : World} {s x : Operand} {d t p e g} {base b2 : Nat} {A B : Option Addr} {c d2 : Nat} {vs us : List Ml} (hs : evl l s = some (.slice A vs.length c)) (hx : evl l x = some (.slice B us.length d2))
    (h1 : Own w base 38 8 A c (vs.map mlV)) (h2 : Own w b2 38 8 B d2 (us.map mlV)) (hln : vs.length + us.length ≤ 1000000000000) (hbase : base ≤ w.heap.size) :
    FiresE Tryd.prog ⟨d, .call { callee := .builtin .append, args := #[s, x], argTypes := #[28, 28] }, t, p, e, g⟩ n l w
      (fun r w' => ∃ A' c', r = .slice A' (vs ++ us).length c' ∧ Own w' base 38 8 A' c' ((vs ++ us).map mlV) ∧ Kp (ob A) w w' ∧ (ob A' = ob A ∨ ob A' = [w.heap.size])) := by
  rcases Nat.eq_zero_or_pos us.length with h0 | h0
  · obtain rfl := List.eq_nil_of_length_eq_zero h0
    intro a F
    have hf := f_append0 (w := w) (n := n) (P := Tryd.prog) (d := d) (t := t) (p := p) (e := e) (g := g) hs hx Tryd.underlying28 Tryd.sizeOf38 (by have := h1.2.2; simpa using this) a F
    exact ⟨_, w, hf, A, c, by simp, by simpa using h1, Kp.refl _ _, .inl rfl⟩
  · obtain ⟨gB, curB, rfl, _⟩ := h2.opens (by have := h2.2.2; simp at this; omega)
    refine FiresE.mono (f_appendN (sz := 8) (vs := vs.map mlV) (us := us.map mlV) (ad := ⟨gB, 0, none⟩) (bytes := 72) (z := mlV default) (by rw [List.length_map]; exact hs) (by rw [List.length_map]; exact hx) Tryd.underlying28 (i := Tryd.t38) (by kernel_rfl) (by kernel_rfl) rfl rfl rfl (by decide) h1 (ml_rd h2.msl) ml_one (by simp; omega) (by simp; omega) hbase (.inl (by simp; omega))) (fun v w' h => ?_)
    obtain ⟨A', c', rfl, o, k, hb⟩ := h
    exact ⟨A', c', by simp, by simpa using o, k, hb⟩
structure Gm where
  sn : Nat → Nat → Int
  V : Nat → List Ml
abbrev idn : Nat → Int := fun p => (p : Int)
def Grp (w : World) (base g : Nat) (G : Gm) : Prop := ∃ R : Nat → Rw, (∀ r, (R r).vs = G.V r) ∧ Blk w g 36 (grpL idn G.sn R) ∧ Rows w base g R
/-- All blocks below base are as they were. -/
def Kb (base : Nat) (w w' : World) : Prop := ∃ M, Kp M w w' ∧ ∀ x ∈ M, base ≤ x
theorem Kb.kp {base : Nat} {w0 w w' : World} (h : Kb base w w') (k : Kp [] w0 w) (hb : w0.heap.size ≤ base) : Kp [] w0 w' := by
  obtain ⟨M, k2, hM⟩ := h
  exact k.trans k2 (fun x hx hl => by have := hM x hx; omega)

/-! ### Hear's and Cast's answers, in one form each -/
abbrev csV (me : Int) (s : Nat → Int) (A : Option Addr) (n c : Nat) : Value := .agg #[.int .i64 me, .int .i64 (s 0), .int .i64 (s 1), .int .i64 (s 2), .int .i64 (s 3), .int .i64 (s 4), .int .i64 (s 5), .slice A n c]
structure HR where
  e : Int
  me : Int
  s : Nat → Int
  hold : List Ml
  out : List Ml
def hearR (me : Int) (s : Nat → Int) (hold : List Ml) (m : Ml) : HR := match hearN me s hold m with
  | none => ⟨8, 0, fun _ => 0, [], []⟩
  | some r => ⟨0, me, r.1, r.2.1, r.2.2⟩
theorem hearR_e (me : Int) (s : Nat → Int) (hold : List Ml) (m : Ml) : (hearR me s hold m).e = 8 ∨ ((hearR me s hold m).e = 0 ∧ (hearR me s hold m).me = me) := by
  unfold hearR
  cases hearN me s hold m
  · exact .inl rfl
  · exact .inr ⟨rfl, rfl⟩
/-- One process hears one of those that were cast. -/
def hearG (G : Gm) (p k : Nat) : Gm :=
  if (hearR p (G.sn p) (G.V p) ((G.V 4).getD k default)).e = 8 then G else
  ⟨upd G.sn p (hearR p (G.sn p) (G.V p) ((G.V 4).getD k default)).s, upd (upd G.V p (hearR p (G.sn p) (G.V p) ((G.V 4).getD k default)).hold) (5 + p) (G.V (5 + p) ++ (hearR p (G.sn p) (G.V p) ((G.V 4).getD k default)).out)⟩
theorem hear_r (A : Option Addr) (c : Nat) (me : Int) (s : Nat → Int) (hold : List Ml) (m : Ml) (w0 : World) (hh : Sl w0 0 w0.heap.size 8 A hold.length c (fun i => mlV (hold.getD i default))) (hV : Valid me s hold) (hF : Formed m) (hb : (∀ i, i < 6 → m.a i ≤ 16777215) ∧ ∀ x ∈ hold, ∀ i, i < 6 → x.a i ≤ 16777215) :
    Calls Tryd.prog 13 #[csV me s A hold.length c, mlV m] w0 (Ret fun v w' => ∃ A' c' B d, v = .tuple #[csV (hearR me s hold m).me (hearR me s hold m).s A' (hearR me s hold m).hold.length c', .slice B (hearR me s hold m).out.length d, .int .i64 (hearR me s hold m).e] ∧ Kp [] w0 w' ∧
      Own w' w0.heap.size 38 8 A' c' ((hearR me s hold m).hold.map mlV) ∧ Own w' w0.heap.size 38 8 B d ((hearR me s hold m).out.map mlV)) :=
  (hear_c A c me s hold m w0 hh hV hF hb).mono fun e w' he => by
    cases e with
    | returned v =>
      unfold hearR
      cases hN : hearN me s hold m <;> rw [hN] at he
      · exact ⟨none, 0, none, 0, he.2, he.1, Own.nil _ _ _ _, Own.nil _ _ _ _⟩
      · exact he
    | panicked c => exact he.elim
    | outgrown => exact he.elim
structure CR where
  e : Int
  me : Int
  s : Nat → Int
  hold : List Ml
  m : Ml
def castR (me : Int) (s : Nat → Int) (hold : List Ml) (tx : ByteArray) : CR :=
  if s me.toNat < 16777215 then ⟨0, me, upd s me.toNat (s me.toNat + 1), hold, ⟨me, upd s me.toNat (s me.toNat + 1), tx⟩⟩ else ⟨8, 0, fun _ => 0, [], ⟨0, fun _ => 0, ByteArray.empty⟩⟩
theorem cast_r (A : Option Addr) (c : Nat) (me : Int) (s : Nat → Int) (hold : List Ml) (tx : ByteArray) (w0 : World) (hh : Sl w0 0 w0.heap.size 8 A hold.length c (fun i => mlV (hold.getD i default))) (hV : Valid me s hold) :
    Calls Tryd.prog 11 #[csV me s A hold.length c, .string tx] w0 (Ret fun v w' => ∃ A' c', v = .tuple #[csV (castR me s hold tx).me (castR me s hold tx).s A' (castR me s hold tx).hold.length c', mlV (castR me s hold tx).m, .int .i64 (castR me s hold tx).e] ∧ Kp [] w0 w' ∧
      Own w' w0.heap.size 38 8 A' c' ((castR me s hold tx).hold.map mlV) ∧ ((castR me s hold tx).hold = [] → c' = 0)) :=
  (cast_c A c me s hold tx w0 hh hV).mono fun e w' he => by
    cases e with
    | returned v =>
      unfold castR
      rcases he with ⟨h1, A', c', h2, h3, h4⟩ | ⟨h1, h2, h3⟩
      · rw [if_pos h1]; exact ⟨A', c', h2, h3, h4⟩
      · rw [if_neg (by omega)]; exact ⟨none, 0, h3, h2, Own.nil _ _ _ _, fun _ => rfl⟩
    | panicked c => exact he.elim
    | outgrown => exact he.elim
end Go.Proofs.YtkbngaollbmcbaaDoor.KK

namespace Go.Proofs.YtkbngaollbmcbaaDoor.KK
open Go Go.RowKit

set_option maxHeartbeats 4000000 in
theorem ghear_c (base gG p k : Nat) (sn : Nat → Nat → Int) (R : Nat → Rw) (w0 : World) (hg : Blk w0 gG 36 (grpL idn sn R)) (hR : Rows w0 base gG R) (hp : p < 4) (hk : k < (R 4).vs.length) (hV : Valid p (sn p) (R p).vs) (hF : Formed ((R 4).vs.getD k default)) (hb : (∀ i, i < 6 → ((R 4).vs.getD k default).a i ≤ 16777215) ∧ ∀ x ∈ (R p).vs, ∀ i, i < 6 → x.a i ≤ 16777215) (hln : (R (5 + p)).vs.length ≤ 1000000000 ∧ (hearR p (sn p) (R p).vs ((R 4).vs.getD k default)).out.length ≤ 1000000000) (h4n : (R 4).vs.length ≤ 1000000000) : Calls Tryd.prog 8 #[.pointer (some ⟨gG, 0, none⟩), .int .i64 (p : Int), .int .i64 (k : Int)] w0 (Ret fun v w' => ∃ R', v = .bool true ∧ Blk w' gG 36 (grpL idn (hearG ⟨sn, fun r => (R r).vs⟩ p k).sn R') ∧ Rows w' base gG R' ∧ (∀ r, (R' r).vs = (hearG ⟨sn, fun r => (R r).vs⟩ p k).V r) ∧ Kb base w0 w') := by
  refine enter (n := 51) Tryd.func8 rfl rfl rfl (fun ac F => ?_)
  have kp0 := Kp.refl (gG :: ob (R (5 + p)).A) w0
  have hR0 := hR
  have hRl := hR.lt9
  have hk0 := Kp.refl ([] : List Nat) w0
  have hlt := hR.lt
  have h4 := (hR.own 4 (by omega)).msl
  refine c_seq (fun K1 H2 => ?_)
  refine c_region ?_
  refine stp F (f_assign rfl) rfl rfl rfl (fun ac F => ?_)
  refine stpEnd ?_
  refine H2 _ _ ?_
  refine c_seq (fun K3 H4 => ?_)
  have lt_hg := hg.lt
  refine c_drawH [0, 1, 2, 3, 4, 5, 6, 7, 8, 9, 10, 11, 12, 13, 14, 15, 16, 17, 18, 19, 20, 21] [] (fun i => [.pure, .pure, .pure, .pure, .pure, .quiet, .pure, .pure, .pure, .quiet, .pure, .pure, .quiet, .big, .pure, .pure, .pure, .pure, .new, .own, .pure, .pure].getD i .pure) ([] : List Nat) w0.heap.size (by simp) (by rfl) (by decide +kernel) (fun wx => Kp [] w0 wx) (fun wx => Kp [] w0 wx) (⟨fun wa wb hC_ kk => by have hq := hC_; exact hq.trans kk (by simp), fun wa hC_ => hC_.size⟩) (Kp.mono (Kp.drew _) (by simp)) ?_
  refine gP F rfl (fun wq => f_move rfl) rfl rfl rfl (fun ac F => ?_)
  refine gP F rfl (fun wq => f_move rfl) rfl rfl rfl (fun ac F => ?_)
  refine gP F rfl (fun wq => f_nilCheck rfl) rfl rfl rfl (fun ac F => ?_)
  refine gP F rfl (fun wq => f_fieldAddr (r := ⟨gG, 0, none⟩) (sz := 31) rfl Tryd.underlying36 rfl Tryd.sizeOf33 rfl) rfl rfl rfl (fun ac F => ?_)
  refine gP F rfl (fun wq => f_indexA (r := ⟨gG, p * 8, none⟩) rfl rfl Tryd.underlying33 Tryd.sizeOf32 (by omega) (by omega) (add_eq (by omega))) rfl rfl rfl (fun ac F => ?_)
  refine gQ F rfl (fun wq hq => f_loadN rfl Tryd.isAgg32 Tryd.sizeOf32 (grp_rd (hg.keep hq (by simp)) (p := p) (by omega) (by omega))) (fun _ h => h) rfl rfl rfl (fun ac F => ?_)
  refine gP F rfl (fun wq => f_move rfl) rfl rfl rfl (fun ac F => ?_)
  refine gP F rfl (fun wq => f_nilCheck rfl) rfl rfl rfl (fun ac F => ?_)
  refine gP F rfl (fun wq => f_fieldAddr (r := ⟨gG, 32, none⟩) (sz := 0) rfl Tryd.underlying36 rfl Tryd.sizeOf28 rfl) rfl rfl rfl (fun ac F => ?_)
  refine gQ F rfl (fun wq hq => f_load1 (v := .slice ((R 4).A) ((R 4).vs.length) ((R 4).c)) rfl Tryd.isAgg28 (((hg.keep hq (by simp)).cell _).trans rfl)) (fun _ h => h) rfl rfl rfl (fun ac F => ?_)
  refine gP F rfl (fun wq => f_move rfl) rfl rfl rfl (fun ac F => ?_)
  refine gP F rfl (fun wq => f_indexS (r := ((adr ((R 4).A)).add (k * 8))) rfl rfl Tryd.underlying28 Tryd.sizeOf38 (by omega) (by omega) (h4.some_ (by omega)).1 (by rw [show Int.toNat (k : Int) = k from by omega])) rfl rfl rfl (fun ac F => ?_)
  refine gQ F rfl (fun wq hq => f_loadN rfl Tryd.isAgg38 Tryd.sizeOf38 ((h4.keep hq (by simp)).rd (i := k) (by omega) rfl)) (fun _ h => h) rfl rfl rfl (fun ac F => ?_)
  refine gB F rfl (ι := Option Addr × Nat × Option Addr × Nat) (none, 0, none, 0) (fun x => .tuple #[csV (hearR p (sn p) (R p).vs ((R 4).vs.getD k default)).me (hearR p (sn p) (R p).vs ((R 4).vs.getD k default)).s x.1 (hearR p (sn p) (R p).vs ((R 4).vs.getD k default)).hold.length x.2.1, .slice x.2.2.1 (hearR p (sn p) (R p).vs ((R 4).vs.getD k default)).out.length x.2.2.2, .int .i64 (hearR p (sn p) (R p).vs ((R 4).vs.getD k default)).e]) (fun x wx => Kp [] w0 wx ∧ Own wx w0.heap.size 38 8 x.1 x.2.1 ((hearR p (sn p) (R p).vs ((R 4).vs.getD k default)).hold.map mlV) ∧ Own wx w0.heap.size 38 8 x.2.2.1 x.2.2.2 ((hearR p (sn p) (R p).vs ((R 4).vs.getD k default)).out.map mlV)) (fun wq => f_call (P := Tryd.prog) (f := 13) (vs := [.agg #[.int .i64 (p : Int), .int .i64 ((sn p) 0), .int .i64 ((sn p) 1), .int .i64 ((sn p) 2), .int .i64 ((sn p) 3), .int .i64 ((sn p) 4), .int .i64 ((sn p) 5), .slice ((R p).A) ((R p).vs.length) ((R p).c)], .agg #[.int .i64 (((R 4).vs.getD k default).f), .int .i64 (((R 4).vs.getD k default).a 0), .int .i64 (((R 4).vs.getD k default).a 1), .int .i64 (((R 4).vs.getD k default).a 2), .int .i64 (((R 4).vs.getD k default).a 3), .int .i64 (((R 4).vs.getD k default).a 4), .int .i64 (((R 4).vs.getD k default).a 5), .string (((R 4).vs.getD k default).t)]]) rfl Tryd.call13) (fun x => ⟨fun wa wb h k => ⟨h.1.trans k (by simp), h.2.1.keep k (by simp), h.2.2.keep k (by simp)⟩, fun _ h => h.1.size⟩) (fun x _ h => h.1) (fun wq hq => (hear_r (R p).A (R p).c p (sn p) (R p).vs ((R 4).vs.getD k default) wq (((hR.own p (by omega)).msl.more (Nat.zero_le _) (Nat.le_refl _)).keep hq (by simp) |>.more (Nat.le_refl _) hq.size) hV hF hb).mono fun e w' h => by cases e <;> first | exact h.elim | (obtain ⟨A', c', B, d, rfl, k1, o1, o2⟩ := h; exact ⟨k1, (A', c', B, d), rfl, hq.trans k1 (by simp), o1.more hq.size, o2.more hq.size⟩)) rfl rfl rfl (fun x ac F => ?_)
  obtain ⟨A2, c2, B2, d2⟩ := x
  refine gP F rfl (fun wq => f_move rfl) rfl rfl rfl (fun ac F => ?_)
  refine gP F rfl (fun wq => f_extract (vs := [.agg #[.int .i64 ((hearR p (sn p) (R p).vs ((R 4).vs.getD k default)).me), .int .i64 ((hearR p (sn p) (R p).vs ((R 4).vs.getD k default)).s 0), .int .i64 ((hearR p (sn p) (R p).vs ((R 4).vs.getD k default)).s 1), .int .i64 ((hearR p (sn p) (R p).vs ((R 4).vs.getD k default)).s 2), .int .i64 ((hearR p (sn p) (R p).vs ((R 4).vs.getD k default)).s 3), .int .i64 ((hearR p (sn p) (R p).vs ((R 4).vs.getD k default)).s 4), .int .i64 ((hearR p (sn p) (R p).vs ((R 4).vs.getD k default)).s 5), .slice A2 ((hearR p (sn p) (R p).vs ((R 4).vs.getD k default)).hold.length) c2], .slice B2 ((hearR p (sn p) (R p).vs ((R 4).vs.getD k default)).out.length) d2, .int .i64 ((hearR p (sn p) (R p).vs ((R 4).vs.getD k default)).e)]) rfl rfl) rfl rfl rfl (fun ac F => ?_)
  refine gP F rfl (fun wq => f_extract (vs := [.agg #[.int .i64 ((hearR p (sn p) (R p).vs ((R 4).vs.getD k default)).me), .int .i64 ((hearR p (sn p) (R p).vs ((R 4).vs.getD k default)).s 0), .int .i64 ((hearR p (sn p) (R p).vs ((R 4).vs.getD k default)).s 1), .int .i64 ((hearR p (sn p) (R p).vs ((R 4).vs.getD k default)).s 2), .int .i64 ((hearR p (sn p) (R p).vs ((R 4).vs.getD k default)).s 3), .int .i64 ((hearR p (sn p) (R p).vs ((R 4).vs.getD k default)).s 4), .int .i64 ((hearR p (sn p) (R p).vs ((R 4).vs.getD k default)).s 5), .slice A2 ((hearR p (sn p) (R p).vs ((R 4).vs.getD k default)).hold.length) c2], .slice B2 ((hearR p (sn p) (R p).vs ((R 4).vs.getD k default)).out.length) d2, .int .i64 ((hearR p (sn p) (R p).vs ((R 4).vs.getD k default)).e)]) rfl rfl) rfl rfl rfl (fun ac F => ?_)
  refine gP F rfl (fun wq => f_extract (vs := [.agg #[.int .i64 ((hearR p (sn p) (R p).vs ((R 4).vs.getD k default)).me), .int .i64 ((hearR p (sn p) (R p).vs ((R 4).vs.getD k default)).s 0), .int .i64 ((hearR p (sn p) (R p).vs ((R 4).vs.getD k default)).s 1), .int .i64 ((hearR p (sn p) (R p).vs ((R 4).vs.getD k default)).s 2), .int .i64 ((hearR p (sn p) (R p).vs ((R 4).vs.getD k default)).s 3), .int .i64 ((hearR p (sn p) (R p).vs ((R 4).vs.getD k default)).s 4), .int .i64 ((hearR p (sn p) (R p).vs ((R 4).vs.getD k default)).s 5), .slice A2 ((hearR p (sn p) (R p).vs ((R 4).vs.getD k default)).hold.length) c2], .slice B2 ((hearR p (sn p) (R p).vs ((R 4).vs.getD k default)).out.length) d2, .int .i64 ((hearR p (sn p) (R p).vs ((R 4).vs.getD k default)).e)]) rfl rfl) rfl rfl rfl (fun ac F => ?_)
  refine gN F rfl (n_alloc Tryd.zeroValue32 rfl) rfl rfl rfl (fun g7 ac hN7 F => ?_)
  refine wpG_sub (D := (fun wx => Kp [] w0 wx ∧ Own wx w0.heap.size 38 8 A2 c2 ((hearR p (sn p) (R p).vs ((R 4).vs.getD k default)).hold.map mlV) ∧ Own wx w0.heap.size 38 8 B2 d2 ((hearR p (sn p) (R p).vs ((R 4).vs.getD k default)).out.map mlV) ∧ Blk wx g7 32 ([.int .i64 0, .int .i64 0, .int .i64 0, .int .i64 0, .int .i64 0, .int .i64 0, .int .i64 0, .slice none 0 0]) ∧ (∀ x ∈ ob A2, x ≠ g7) ∧ (∀ x ∈ ob B2, x ≠ g7))) (Gd.and (⟨fun wa wb hC_ kk => by obtain ⟨hq, ho, hB⟩ := hC_; exact ⟨hq.trans kk (by simp), ho.keep kk (by simp), hB.keep kk (by simp)⟩, fun wa hC_ => hC_.1.size⟩) blk_nil) (fun w_ h_ => ⟨h_.1.1, h_.1.2.1, h_.1.2.2, h_.2, h_.1.2.1.ne h_.2 (by decide), h_.1.2.2.ne h_.2 (by decide)⟩) ?_
  refine gO F rfl (fun wx => Kp [] w0 wx ∧ Own wx w0.heap.size 38 8 A2 c2 ((hearR p (sn p) (R p).vs ((R 4).vs.getD k default)).hold.map mlV) ∧ Own wx w0.heap.size 38 8 B2 d2 ((hearR p (sn p) (R p).vs ((R 4).vs.getD k default)).out.map mlV) ∧ Blk wx g7 32 ([.int .i64 ((hearR p (sn p) (R p).vs ((R 4).vs.getD k default)).me), .int .i64 ((hearR p (sn p) (R p).vs ((R 4).vs.getD k default)).s 0), .int .i64 ((hearR p (sn p) (R p).vs ((R 4).vs.getD k default)).s 1), .int .i64 ((hearR p (sn p) (R p).vs ((R 4).vs.getD k default)).s 2), .int .i64 ((hearR p (sn p) (R p).vs ((R 4).vs.getD k default)).s 3), .int .i64 ((hearR p (sn p) (R p).vs ((R 4).vs.getD k default)).s 4), .int .i64 ((hearR p (sn p) (R p).vs ((R 4).vs.getD k default)).s 5), .slice A2 ((hearR p (sn p) (R p).vs ((R 4).vs.getD k default)).hold.length) c2]) ∧ (∀ x ∈ ob A2, x ≠ g7) ∧ (∀ x ∈ ob B2, x ≠ g7)) (fun wq hC_ => by obtain ⟨hq, ho, hB, hb7, hob0, hob1⟩ := hC_; exact f_store (v := .agg #[.int .i64 ((hearR p (sn p) (R p).vs ((R 4).vs.getD k default)).me), .int .i64 ((hearR p (sn p) (R p).vs ((R 4).vs.getD k default)).s 0), .int .i64 ((hearR p (sn p) (R p).vs ((R 4).vs.getD k default)).s 1), .int .i64 ((hearR p (sn p) (R p).vs ((R 4).vs.getD k default)).s 2), .int .i64 ((hearR p (sn p) (R p).vs ((R 4).vs.getD k default)).s 3), .int .i64 ((hearR p (sn p) (R p).vs ((R 4).vs.getD k default)).s 4), .int .i64 ((hearR p (sn p) (R p).vs ((R 4).vs.getD k default)).s 5), .slice A2 ((hearR p (sn p) (R p).vs ((R 4).vs.getD k default)).hold.length) c2]) (vs := [.int .i64 ((hearR p (sn p) (R p).vs ((R 4).vs.getD k default)).me), .int .i64 ((hearR p (sn p) (R p).vs ((R 4).vs.getD k default)).s 0), .int .i64 ((hearR p (sn p) (R p).vs ((R 4).vs.getD k default)).s 1), .int .i64 ((hearR p (sn p) (R p).vs ((R 4).vs.getD k default)).s 2), .int .i64 ((hearR p (sn p) (R p).vs ((R 4).vs.getD k default)).s 3), .int .i64 ((hearR p (sn p) (R p).vs ((R 4).vs.getD k default)).s 4), .int .i64 ((hearR p (sn p) (R p).vs ((R 4).vs.getD k default)).s 5), .slice A2 ((hearR p (sn p) (R p).vs ((R 4).vs.getD k default)).hold.length) c2]) rfl rfl hb7 Tryd.sizeOf32 rfl rfl (by simp) (by simp [plainV])) (⟨fun wa wb hC_ kk => by obtain ⟨hq, ho, hB, hb7, hob0, hob1⟩ := hC_; exact ⟨hq.trans kk (by simp), ho.keep kk (by simp), hB.keep kk (by simp), hb7.keep kk (by simp), hob0, hob1⟩, fun wa hC_ => hC_.1.size⟩) (fun wa wb hC_ wr_ => by obtain ⟨hq, ho, hB, hb7, hob0, hob1⟩ := hC_; exact ⟨(hq.mono (by intro x hx _; first | exact hx | simp [hx] | simp at hx)).trans wr_.kp (by intro x hx hl; simp at hx; first | omega | simp [hx]), ho.keep wr_.kp (by intro x hx hm; have h1 := ho.base_le x hx; (try have h2 := hob0 x hx); (try have h3 := hob1 x hx); simp at hm; omega), hB.keep wr_.kp (by intro x hx hm; have h1 := hB.base_le x hx; (try have h2 := hob0 x hx); (try have h3 := hob1 x hx); simp at hm; omega), wr_.blk, hob0, hob1⟩) rfl rfl (fun ac F => ?_)
  refine gP F rfl (fun wq => f_assign rfl) rfl rfl rfl (fun ac F => ?_)
  refine gP F rfl (fun wq => f_assign rfl) rfl rfl rfl (fun ac F => ?_)
  refine gEnd (fun w7 hq => ?_)
  obtain ⟨hq, hn_ho, hn_hB, hn_hb7, hn_hob0, hn_hob1⟩ := hq
  have hsz := hq.size
  replace hg := hg.keep hq (by simp)
  replace hR := hR.nil hq
  replace hk0 := hk0.trans hq (by simp)
  replace h4 := h4.keep hq (by simp)
  replace kp0 := kp0.trans hq (by simp)
  have ho : Own w7 w0.heap.size 38 8 A2 c2 ((hearR p (sn p) (R p).vs ((R 4).vs.getD k default)).hold.map mlV) := hn_ho
  have hB : Own w7 w0.heap.size 38 8 B2 d2 ((hearR p (sn p) (R p).vs ((R 4).vs.getD k default)).out.map mlV) := hn_hB
  have hb7 : Blk w7 g7 32 ([.int .i64 ((hearR p (sn p) (R p).vs ((R 4).vs.getD k default)).me), .int .i64 ((hearR p (sn p) (R p).vs ((R 4).vs.getD k default)).s 0), .int .i64 ((hearR p (sn p) (R p).vs ((R 4).vs.getD k default)).s 1), .int .i64 ((hearR p (sn p) (R p).vs ((R 4).vs.getD k default)).s 2), .int .i64 ((hearR p (sn p) (R p).vs ((R 4).vs.getD k default)).s 3), .int .i64 ((hearR p (sn p) (R p).vs ((R 4).vs.getD k default)).s 4), .int .i64 ((hearR p (sn p) (R p).vs ((R 4).vs.getD k default)).s 5), .slice A2 ((hearR p (sn p) (R p).vs ((R 4).vs.getD k default)).hold.length) c2]) := hn_hb7
  have hob0 : (∀ x ∈ ob A2, x ≠ g7) := hn_hob0
  have hob1 : (∀ x ∈ ob B2, x ≠ g7) := hn_hob1
  refine stpEnd ?_
  refine H4 _ _ ?_
  refine c_seq (fun K8 H9 => ?_)
  refine c_seq (fun K10 H11 => ?_)
  refine c_region ?_
  refine stp F (f_move rfl) rfl rfl rfl (fun ac F => ?_)
  refine stp F (f_eql rfl rfl) rfl rfl rfl (fun ac F => ?_)
  refine stpEnd ?_
  refine H11 _ _ ?_
  by_cases hc12 : (hearR p (sn p) (R p).vs ((R 4).vs.getD k default)).e = 8
  · have hc := hc12
    replace F := F.setb (k := 29) (b' := true) rfl (decide_eq_true hc)
    clear hc
    refine c_true F rfl ?_
    refine c_seq (fun K13 H14 => ?_)
    refine c_region ?_
    refine stp F (f_assign rfl) rfl rfl rfl (fun ac F => ?_)
    refine stpEnd ?_
    refine H14 _ _ ?_
    refine wp_ret ?_
    refine ret1 F rfl rfl ?_
    have hG : hearG ⟨sn, fun r => (R r).vs⟩ p k = ⟨sn, fun r => (R r).vs⟩ := by unfold hearG; rw [if_pos hc12]
    exact ⟨R, rfl, by rw [hG]; exact hg, hR, fun r => by rw [hG], ⟨_, kp0, by intro x hx; simp at hx; rcases hx with rfl | hx; exact hR0.lt.1; exact ((hR0.own (5 + p) (by omega)).base_le x hx).1⟩⟩
  · have hc := hc12
    replace F := F.setb (k := 29) (b' := false) rfl (decide_eq_false hc)
    clear hc
    refine c_false F rfl ?_
    refine wp_skip ?_
    refine H9 _ _ ?_
    refine c_seq (fun K15 H16 => ?_)
    have hR2 := hR0.new (r := p) (vs' := (hearR p (sn p) (R p).vs ((R 4).vs.getD k default)).hold) (by omega) hk0 ho
    have lt_hg := hg.lt
    have lt_hb7 := hb7.lt
    refine c_drawH [0, 1, 2, 3, 4, 5, 6, 7, 8, 9, 10, 11, 13, 14, 17, 18, 12, 15, 16, 19, 20] [] (fun i => [.pure, .pure, .pure, .pure, .quiet, .pure, .pure, .pure, .pure, .pure, .quiet, .pure, .big, .pure, .pure, .pure, .own, .pure, .pure, .pure, .own].getD i .pure) ((ob (R (5 + p)).A) : List Nat) w7.heap.size (by intro x hx; have := hR2.lt9 (5 + p) (by omega) x (by rw [upd_off (by omega)]; exact hx); omega) (by rfl) (by decide +kernel) (fun wx => Kp (ob (R (5 + p)).A) w7 wx) (fun wx => Kp (ob (R (5 + p)).A) w7 wx ∧ Blk wx gG 36 (grpL idn sn R) ∧ Rows wx base gG (upd R p ⟨A2, c2, (hearR p (sn p) (R p).vs ((R 4).vs.getD k default)).hold⟩) ∧ Own wx w0.heap.size 38 8 B2 d2 ((hearR p (sn p) (R p).vs ((R 4).vs.getD k default)).out.map mlV)) (⟨fun wa wb hC_ kk => by obtain ⟨hq, hg, hR2, hB⟩ := hC_; exact ⟨hq.trans kk (by simp), hg.keep kk (by simp), hR2.nil kk, hB.keep kk (by simp)⟩, fun wa hC_ => hC_.1.size⟩) (⟨Kp.mono (Kp.drew _) (by simp), hg.keep (Kp.drew _) (by simp), hR2.nil (Kp.drew _), hB.keep (Kp.drew _) (by simp)⟩) ?_
    refine gP F rfl (fun wq => f_move rfl) rfl rfl rfl (fun ac F => ?_)
    refine gP F rfl (fun wq => f_move rfl) rfl rfl rfl (fun ac F => ?_)
    refine gP F rfl (fun wq => f_move rfl) rfl rfl rfl (fun ac F => ?_)
    refine gP F rfl (fun wq => f_move rfl) rfl rfl rfl (fun ac F => ?_)
    refine gQ F rfl (fun wq hq => f_loadN rfl Tryd.isAgg32 Tryd.sizeOf32 (hb7.keep hq (fun hx => by have := hRl (5 + p) (by omega) _ hx; omega)).rdAll) (fun _ h => h.1) rfl rfl rfl (fun ac F => ?_)
    refine gP F rfl (fun wq => f_move rfl) rfl rfl rfl (fun ac F => ?_)
    refine gP F rfl (fun wq => f_move rfl) rfl rfl rfl (fun ac F => ?_)
    refine gP F rfl (fun wq => f_nilCheck rfl) rfl rfl rfl (fun ac F => ?_)
    refine gP F rfl (fun wq => f_fieldAddr (r := ⟨gG, 33, none⟩) (sz := 3) rfl Tryd.underlying36 rfl Tryd.sizeOf34 rfl) rfl rfl rfl (fun ac F => ?_)
    refine gP F rfl (fun wq => f_indexA (r := ⟨gG, 33 + p * 1, none⟩) rfl rfl Tryd.underlying34 Tryd.sizeOf28 (by omega) (by omega) (add_eq (by omega))) rfl rfl rfl (fun ac F => ?_)
    refine gQ F rfl (fun wq hq => f_load1 (v := .slice ((R (5 + p)).A) ((R (5 + p)).vs.length) ((R (5 + p)).c)) rfl Tryd.isAgg28 (((hg.keep hq (fun hx => hR0.off (5 + p) (by omega) _ hx rfl)).cell _).trans (grp_told (p := p) (by omega) rfl))) (fun _ h => h.1) rfl rfl rfl (fun ac F => ?_)
    refine gP F rfl (fun wq => f_move rfl) rfl rfl rfl (fun ac F => ?_)
    refine gP F rfl (fun wq => f_nilCheck rfl) rfl rfl rfl (fun ac F => ?_)
    refine gP F rfl (fun wq => f_fieldAddr (r := ⟨gG, 0, none⟩) (sz := 31) rfl Tryd.underlying36 rfl Tryd.sizeOf33 rfl) rfl rfl rfl (fun ac F => ?_)
    refine gP F rfl (fun wq => f_nilCheck rfl) rfl rfl rfl (fun ac F => ?_)
    refine gP F rfl (fun wq => f_fieldAddr (r := ⟨gG, 33, none⟩) (sz := 3) rfl Tryd.underlying36 rfl Tryd.sizeOf34 rfl) rfl rfl rfl (fun ac F => ?_)
    refine gE F rfl (ι := Option Addr × Nat) (none, 0) (fun x => .slice x.1 ((R (5 + p)).vs ++ (hearR p (sn p) (R p).vs ((R 4).vs.getD k default)).out).length x.2) (fun x wx => Kp (ob (R (5 + p)).A) w7 wx ∧ Blk wx gG 36 (grpL idn sn R) ∧ Rows wx base gG (upd (upd R p ⟨A2, c2, (hearR p (sn p) (R p).vs ((R 4).vs.getD k default)).hold⟩) (5 + p) ⟨x.1, x.2, (R (5 + p)).vs ++ (hearR p (sn p) (R p).vs ((R 4).vs.getD k default)).out⟩)) (fun wq hC_ => by obtain ⟨hq, hg, hR2, hB⟩ := hC_; exact FiresE.mono (f_appendM rfl rfl (by have h_ := hR2.own (5 + p) (by omega); rw [upd_off (by omega)] at h_; exact h_) hB (by omega) (by have := hR2.lt; omega)) (fun u_ w_ ⟨A3, c3, h1, o3, kq, hbl⟩ => ⟨kq, (A3, c3), h1, hq.trans kq (by intro x hx hl; exact hx), hg.keep kq (fun hx => hR0.off (5 + p) (by omega) _ hx rfl), hR2.app (by omega) (by rw [upd_off (by omega)]; exact kq) o3 (by rw [upd_off (by omega)]; exact hbl)⟩)) (fun x => ⟨fun wa wb h k => ⟨h.1.trans k (by simp), h.2.1.keep k (by simp), h.2.2.nil k⟩, fun _ h => h.1.size⟩) (fun x _ h => h.1) rfl rfl rfl (fun x ac F => ?_)
    obtain ⟨A3, c3⟩ := x
    refine gP F rfl (fun wq => f_indexA (r := ⟨gG, p * 8, none⟩) rfl rfl Tryd.underlying33 Tryd.sizeOf32 (by omega) (by omega) (add_eq (by omega))) rfl rfl rfl (fun ac F => ?_)
    refine gO F rfl (fun wx => Kp (gG :: ob (R (5 + p)).A) w7 wx ∧ Blk wx gG 36 (grpL (upd idn p ((hearR p (sn p) (R p).vs ((R 4).vs.getD k default)).me)) (upd sn p ((hearR p (sn p) (R p).vs ((R 4).vs.getD k default)).s)) (upd R p ⟨A2, c2, (hearR p (sn p) (R p).vs ((R 4).vs.getD k default)).hold⟩)) ∧ Rows wx base gG (upd (upd R p ⟨A2, c2, (hearR p (sn p) (R p).vs ((R 4).vs.getD k default)).hold⟩) (5 + p) ⟨A3, c3, (R (5 + p)).vs ++ (hearR p (sn p) (R p).vs ((R 4).vs.getD k default)).out⟩)) (fun wq hC_ => by obtain ⟨hq, hg, hR3⟩ := hC_; exact f_store (v := .agg #[.int .i64 ((hearR p (sn p) (R p).vs ((R 4).vs.getD k default)).me), .int .i64 ((hearR p (sn p) (R p).vs ((R 4).vs.getD k default)).s 0), .int .i64 ((hearR p (sn p) (R p).vs ((R 4).vs.getD k default)).s 1), .int .i64 ((hearR p (sn p) (R p).vs ((R 4).vs.getD k default)).s 2), .int .i64 ((hearR p (sn p) (R p).vs ((R 4).vs.getD k default)).s 3), .int .i64 ((hearR p (sn p) (R p).vs ((R 4).vs.getD k default)).s 4), .int .i64 ((hearR p (sn p) (R p).vs ((R 4).vs.getD k default)).s 5), .slice A2 ((hearR p (sn p) (R p).vs ((R 4).vs.getD k default)).hold.length) c2]) (vs := [.int .i64 ((hearR p (sn p) (R p).vs ((R 4).vs.getD k default)).me), .int .i64 ((hearR p (sn p) (R p).vs ((R 4).vs.getD k default)).s 0), .int .i64 ((hearR p (sn p) (R p).vs ((R 4).vs.getD k default)).s 1), .int .i64 ((hearR p (sn p) (R p).vs ((R 4).vs.getD k default)).s 2), .int .i64 ((hearR p (sn p) (R p).vs ((R 4).vs.getD k default)).s 3), .int .i64 ((hearR p (sn p) (R p).vs ((R 4).vs.getD k default)).s 4), .int .i64 ((hearR p (sn p) (R p).vs ((R 4).vs.getD k default)).s 5), .slice A2 ((hearR p (sn p) (R p).vs ((R 4).vs.getD k default)).hold.length) c2]) rfl rfl hg Tryd.sizeOf32 rfl rfl (by rw [grpL_len]; simp; omega) (by simp [plainV])) (⟨fun wa wb hC_ kk => by obtain ⟨hq, hg, hR3⟩ := hC_; exact ⟨hq.trans kk (by simp), hg.keep kk (by simp), hR3.nil kk⟩, fun wa hC_ => hC_.1.size⟩) (fun wa wb hC_ wr_ => by obtain ⟨hq, hg, hR3⟩ := hC_; exact ⟨(hq.mono (by intro x hx _; first | exact hx | simp [hx] | simp at hx)).trans wr_.kp (by intro x hx hl; simp at hx; first | omega | simp [hx]), ((wr_.blk).eqv (grp_putC (m' := (hearR p (sn p) (R p).vs ((R 4).vs.getD k default)).me) (s' := (hearR p (sn p) (R p).vs ((R 4).vs.getD k default)).s) (r := ⟨A2, c2, (hearR p (sn p) (R p).vs ((R 4).vs.getD k default)).hold⟩) (by omega) rfl)), hR3.atg wr_.kp⟩) rfl rfl (fun ac F => ?_)
    refine gP F rfl (fun wq => f_indexA (r := ⟨gG, 33 + p * 1, none⟩) rfl rfl Tryd.underlying34 Tryd.sizeOf28 (by omega) (by omega) (add_eq (by omega))) rfl rfl rfl (fun ac F => ?_)
    refine gO F rfl (fun wx => Kp (gG :: ob (R (5 + p)).A) w7 wx ∧ Blk wx gG 36 (grpL (upd idn p ((hearR p (sn p) (R p).vs ((R 4).vs.getD k default)).me)) (upd sn p ((hearR p (sn p) (R p).vs ((R 4).vs.getD k default)).s)) (upd (upd R p ⟨A2, c2, (hearR p (sn p) (R p).vs ((R 4).vs.getD k default)).hold⟩) (5 + p) ⟨A3, c3, (R (5 + p)).vs ++ (hearR p (sn p) (R p).vs ((R 4).vs.getD k default)).out⟩)) ∧ Rows wx base gG (upd (upd R p ⟨A2, c2, (hearR p (sn p) (R p).vs ((R 4).vs.getD k default)).hold⟩) (5 + p) ⟨A3, c3, (R (5 + p)).vs ++ (hearR p (sn p) (R p).vs ((R 4).vs.getD k default)).out⟩)) (fun wq hC_ => by obtain ⟨hq, hg, hR3⟩ := hC_; exact f_store (v := .slice A3 (((R (5 + p)).vs ++ (hearR p (sn p) (R p).vs ((R 4).vs.getD k default)).out).length) c3) (vs := [.slice A3 (((R (5 + p)).vs ++ (hearR p (sn p) (R p).vs ((R 4).vs.getD k default)).out).length) c3]) rfl rfl hg Tryd.sizeOf28 rfl rfl (by rw [grpL_len]; simp; omega) (by simp [plainV])) (⟨fun wa wb hC_ kk => by obtain ⟨hq, hg, hR3⟩ := hC_; exact ⟨hq.trans kk (by simp), hg.keep kk (by simp), hR3.nil kk⟩, fun wa hC_ => hC_.1.size⟩) (fun wa wb hC_ wr_ => by obtain ⟨hq, hg, hR3⟩ := hC_; exact ⟨(hq.mono (by intro x hx _; first | exact hx | simp [hx] | simp at hx)).trans wr_.kp (by intro x hx hl; simp at hx; first | omega | simp [hx]), ((wr_.blk).eqv (grp_put5 (r := ⟨A3, c3, (R (5 + p)).vs ++ (hearR p (sn p) (R p).vs ((R 4).vs.getD k default)).out⟩) (by omega) rfl)), hR3.atg wr_.kp⟩) rfl rfl (fun ac F => ?_)
    refine gEnd (fun w21 hq => ?_)
    obtain ⟨hq, hn_hg, hn_hR3⟩ := hq
    have hsz := hq.size
    replace kp0 := kp0.trans hq (by intro x hx hl; exact hx)
    replace hg : Blk w21 gG 36 (grpL (upd idn p ((hearR p (sn p) (R p).vs ((R 4).vs.getD k default)).me)) (upd sn p ((hearR p (sn p) (R p).vs ((R 4).vs.getD k default)).s)) (upd (upd R p ⟨A2, c2, (hearR p (sn p) (R p).vs ((R 4).vs.getD k default)).hold⟩) (5 + p) ⟨A3, c3, (R (5 + p)).vs ++ (hearR p (sn p) (R p).vs ((R 4).vs.getD k default)).out⟩)) := hn_hg
    have hR3 : Rows w21 base gG (upd (upd R p ⟨A2, c2, (hearR p (sn p) (R p).vs ((R 4).vs.getD k default)).hold⟩) (5 + p) ⟨A3, c3, (R (5 + p)).vs ++ (hearR p (sn p) (R p).vs ((R 4).vs.getD k default)).out⟩) := hn_hR3
    refine stpEnd ?_
    refine H16 _ _ ?_
    refine c_seq (fun K22 H23 => ?_)
    refine c_region ?_
    refine stp F (f_move rfl) rfl rfl rfl (fun ac F => ?_)
    refine stp F (f_eql rfl rfl) rfl rfl rfl (fun ac F => ?_)
    refine stp F (f_assign rfl) rfl rfl rfl (fun ac F => ?_)
    refine stpEnd ?_
    refine H23 _ _ ?_
    refine wp_ret ?_
    refine ret1 F rfl rfl ?_
    have he0 := (hearR_e p (sn p) (R p).vs ((R 4).vs.getD k default)).resolve_left hc12
    have hG : hearG ⟨sn, fun r => (R r).vs⟩ p k = ⟨upd sn p (hearR p (sn p) (R p).vs ((R 4).vs.getD k default)).s, upd (upd (fun r => (R r).vs) p (hearR p (sn p) (R p).vs ((R 4).vs.getD k default)).hold) (5 + p) ((R (5 + p)).vs ++ (hearR p (sn p) (R p).vs ((R 4).vs.getD k default)).out)⟩ := by unfold hearG; rw [if_neg hc12]
    refine ⟨_, by rw [he0.1]; rfl, ?_, hR3, fun r => ?_, ⟨_, kp0, by intro x hx; simp at hx; rcases hx with rfl | hx; exact hR0.lt.1; exact ((hR0.own (5 + p) (by omega)).base_le x hx).1⟩⟩
    · rw [hG]; exact hg.eqv (by rw [upd_same (s := idn) he0.2])
    · rw [hG]; show _ = upd (upd _ p _) (5 + p) _ r; unfold upd; split; rfl; split <;> rfl

end Go.Proofs.YtkbngaollbmcbaaDoor.KK

namespace Go.Proofs.YtkbngaollbmcbaaDoor.KK
open Go Go.RowKit

/-! ### What play plays -/
structure Pst where
  kind : Int
  who : Int
  n : Int
instance : Inhabited Pst := ⟨⟨0, 0, 0⟩⟩
abbrev psV (x : Pst) : Value := .agg #[.int .i64 x.kind, .int .i64 x.who, .int .i64 x.n]
def i64 (x : Int) : Prop := -9223372036854775808 ≤ x ∧ x ≤ 9223372036854775807
def Pst.ok (x : Pst) : Prop := i64 x.kind ∧ i64 x.who ∧ i64 x.n
abbrev castK (G : Gm) (p : Nat) : CR := castR p (G.sn p) (G.V p) (itoaB (G.V 4).length)
def castG (G : Gm) (p : Nat) : Gm :=
  if (castK G p).e = 8 then G else ⟨upd G.sn p (castK G p).s, upd (upd G.V 4 (G.V 4 ++ [(castK G p).m])) (5 + p) (G.V (5 + p) ++ [(castK G p).m])⟩
def stepG (G : Gm) (x : Pst) : Gm :=
  if x.kind = 0 then castG G (restN x.who 4).toNat
  else if (G.V 4).length = 0 then G else hearG G (restN x.who 4).toNat (restN x.n (G.V 4).length).toNat
def play0 : Gm := ⟨fun _ _ => 0, fun _ => []⟩
def playN (ps : List Pst) : Gm := ps.foldl stepG play0
/-- What a group keeps, as far as a walk asks. -/
structure Ok (G : Gm) : Prop where
  valid : ∀ p : Nat, p < 4 → Valid p (G.sn p) (G.V p)
  cast : ∀ m ∈ G.V 4, Formed m ∧ ∀ i, i < 6 → m.a i ≤ 16777215
  hold : ∀ p : Nat, p < 4 → ∀ x ∈ G.V p, ∀ i, i < 6 → x.a i ≤ 16777215
  len : (G.V 4).length ≤ 100000000
  told : ∀ p : Nat, p < 4 → (G.V (5 + p)).length ≤ 200000000
theorem fold_take {α β : Type} [Inhabited β] (f : α → β → α) (g : α) : ∀ (l : List β) (k : Nat), k < l.length → (l.take (k + 1)).foldl f g = f ((l.take k).foldl f g) (l.getD k default) := by
  intro l k hk
  rw [List.take_add_one, List.foldl_append]
  simp [hk]
theorem castK_e (G : Gm) (p : Nat) : (castK G p).e = 8 ∨ ((castK G p).e = 0 ∧ (castK G p).me = p ∧ (castK G p).hold = G.V p ∧ (castK G p).m.f = p) := by
  unfold castK castR
  split
  · exact .inr ⟨rfl, rfl, rfl, rfl⟩
  · exact .inl rfl
theorem castR_none {me : Int} {s : Nat → Int} {hold : List Ml} {tx : ByteArray} (h : (castR me s hold tx).e = 8) : (castR me s hold tx).hold = [] := by
  unfold castR at *
  by_cases hb : s me.toNat < 16777215
  · rw [if_pos hb] at h; cases h
  · rw [if_neg hb]
theorem drain_len : ∀ (n : Nat) (s : Nat → Int) (hold : List Ml) (m : Ml), (drainN n s hold m).2.2.length ≤ n + 1
  | 0, s, hold, m => by simp [drainN]
  | n + 1, s, hold, m => by
    rw [drainN]
    split
    · simp
    · simp only [List.length_cons]; have := drain_len n (bump s m) (hold.eraseIdx ‹_›) (hold.getD ‹_› default); omega
theorem hearR_len (me : Int) (s : Nat → Int) (hold : List Ml) (m : Ml) : (hearR me s hold m).out.length ≤ hold.length + 1 := by
  unfold hearR hearN
  split
  · simp
  · rename_i r hr
    split at hr
    · injection hr with hr; subst hr; simp
    · split at hr
      · split at hr
        · cases hr
        · injection hr with hr; subst hr; simp
      · injection hr with hr; subst hr; exact drain_len _ _ _ _
abbrev Vs (R : Nat → Rw) : Nat → List Ml := fun r => (R r).vs
abbrev meK (k : Nat) : Nat → Int := fun i => if i < k then (i : Int) else 0
theorem meK_upd (k : Nat) : upd (meK k) k (k : Int) = meK (k + 1) := by
  funext i
  unfold upd meK
  by_cases h : i = k
  · subst h; simp
  · rw [if_neg h]
    by_cases h2 : i < k
    · rw [if_pos h2, if_pos (by omega)]
    · rw [if_neg h2, if_neg (by omega)]
theorem grpL_idn {s : Nat → Nat → Int} {R : Nat → Rw} : grpL (meK 4) s R = grpL idn s R := rfl
theorem rows0 {w : World} {base g : Nat} (hb : base ≤ g) (hg : g < w.heap.size) : Rows w base g (fun _ => ⟨none, 0, []⟩) :=
  ⟨fun _ _ => Own.nil _ _ _ _, fun _ _ x hx => by simp [ob] at hx, fun _ _ _ _ _ x hx => by simp [ob] at hx, hb, hg⟩
/-- A block of one zero mail is none of a row's. -/
theorem own_fresh {w : World} {base c g : Nat} {A : Option Addr} {ms : List Ml} (h : Own w base 38 8 A c (ms.map mlV)) (hc : ms = [] → c = 0) (hf : ∀ m ∈ ms, Formed m)
    (hb : Blk w g 38 [.int .i64 0, .int .i64 0, .int .i64 0, .int .i64 0, .int .i64 0, .int .i64 0, .int .i64 0, .string ByteArray.empty]) : ∀ x ∈ ob A, x ≠ g := by
  rintro x hx rfl
  rcases h.1.2 with ⟨hv, _⟩ | ⟨g', cap, cur, hv, _, hh, _, _, hcs, htk⟩
  · injection hv with hA; subst hA; simp [ob] at hx
  · injection hv with hA _ hcc; subst hA; subst hcc; simp [ob] at hx; subst hx
    unfold Blk at hb
    rw [hb] at hh
    simp only [Option.some.injEq, Obj.cells.injEq] at hh
    have hcur := hh.1
    subst hcur
    cases ms with
    | nil => rw [hc rfl] at hcs; simp at hcs
    | cons m ms =>
      have hm := hf m (by simp)
      rw [show (Array.toList _ : List Value) = [.int .i64 0, .int .i64 0, .int .i64 0, .int .i64 0, .int .i64 0, .int .i64 0, .int .i64 0, .string ByteArray.empty] from rfl, List.take_of_length_le (by simp; omega)] at htk
      have h0 := congrArg (fun l => (l[0]?, l[1]?)) htk
      simp [Value.cells] at h0
      have h1 : m.f = 0 := h0.1.symm
      have h2 := hm.2.2.2
      rw [h1] at h2
      have h3 : m.a 0 = 0 := h0.2.symm
      rw [show ((0 : Int).toNat) = 0 from rfl, h3] at h2
      omega
theorem who4 (x : Int) : ∃ p : Nat, p < 4 ∧ restN x 4 = (p : Int) ∧ (restN x 4).toNat = p := by
  have := restN_rng x (n := 4) (by omega)
  exact ⟨(restN x 4).toNat, by omega, by omega, rfl⟩
theorem step_full {sn : Nat → Nat → Int} {R : Nat → Rw} {x : Pst} {p : Nat} (hk : x.kind = 0) (hp : (restN x.who 4).toNat = p) (he : (castR p (sn p) (R p).vs (itoaB (R 4).vs.length)).e = 8) : stepG ⟨sn, Vs R⟩ x = ⟨sn, Vs R⟩ := by
  unfold stepG castG; rw [if_pos hk, hp, if_pos he]
theorem step_none {sn : Nat → Nat → Int} {R : Nat → Rw} {x : Pst} (hk : ¬ x.kind = 0) (h4 : (R 4).vs.length = 0) : stepG ⟨sn, Vs R⟩ x = ⟨sn, Vs R⟩ := by
  unfold stepG; rw [if_neg hk, if_pos h4]
theorem step_hear {sn : Nat → Nat → Int} {R R' : Nat → Rw} {x : Pst} {p k : Nat} (hk : ¬ x.kind = 0) (hp : (restN x.who 4).toNat = p) (h4 : ¬ (R 4).vs.length = 0) (hkk : (restN x.n (R 4).vs.length).toNat = k) (hv : ∀ r, (R' r).vs = (hearG ⟨sn, Vs R⟩ p k).V r) :
    stepG ⟨sn, Vs R⟩ x = ⟨(hearG ⟨sn, Vs R⟩ p k).sn, Vs R'⟩ := by
  unfold stepG; rw [if_neg hk, if_neg h4, hp, hkk]
  show hearG _ _ _ = _
  have : Vs R' = (hearG ⟨sn, Vs R⟩ p k).V := funext hv
  rw [this]
theorem step_cast {sn : Nat → Nat → Int} {R : Nat → Rw} {x : Pst} {p : Nat} {A2 A3 A4 : Option Addr} {c2 c3 c4 : Nat} (hp4 : p < 4) (hk : x.kind = 0) (hp : (restN x.who 4).toNat = p) (he : ¬ (castR p (sn p) (R p).vs (itoaB (R 4).vs.length)).e = 8) :
    stepG ⟨sn, Vs R⟩ x = ⟨upd sn p (castR p (sn p) (R p).vs (itoaB (R 4).vs.length)).s, Vs (upd (upd (upd R p ⟨A2, c2, (castR p (sn p) (R p).vs (itoaB (R 4).vs.length)).hold⟩) 4 ⟨A3, c3, (R 4).vs ++ [(castR p (sn p) (R p).vs (itoaB (R 4).vs.length)).m]⟩) (5 + p) ⟨A4, c4, (R (5 + p)).vs ++ [(castR p (sn p) (R p).vs (itoaB (R 4).vs.length)).m]⟩)⟩ := by
  unfold stepG castG; rw [if_pos hk, hp, if_neg he]
  have hh := ((castK_e ⟨sn, Vs R⟩ p).resolve_left he).2.2.1
  congr 1
  funext r
  show upd (upd (Vs R) 4 _) (5 + p) _ r = _
  unfold upd
  by_cases h1 : r = 5 + p
  · simp only [Vs]; rw [if_pos h1, if_pos h1]
  · by_cases h2 : r = 4
    · simp only [Vs]; rw [if_neg h1, if_pos h2, if_neg h1, if_pos h2]
    · simp only [Vs]; rw [if_neg h1, if_neg h2, if_neg h1, if_neg h2]
      by_cases h3 : r = p
      · rw [if_pos h3, h3]; exact hh.symm
      · rw [if_neg h3]
end Go.Proofs.YtkbngaollbmcbaaDoor.KK

namespace Go.Proofs.YtkbngaollbmcbaaDoor.KK
open Go Go.RowKit

set_option maxHeartbeats 4000000 in
theorem play_c (A : Option Addr) (c : Nat) (ps : List Pst) (w0 : World) (hl0 : Sl w0 0 w0.heap.size 3 A ps.length c (fun i => psV (ps.getD i default))) (hps : ∀ x ∈ ps, Pst.ok x) (hn : ps.length ≤ 9223372036854775807) (hOk : ∀ k, Ok ((ps.take k).foldl stepG play0)) (htab : Tab Tryd.prog w0) : Calls Tryd.prog 6 #[.slice A ps.length c] w0 (Ret fun v w' => ∃ g, v = .tuple #[.pointer (some ⟨g, 0, none⟩), .bool true] ∧ Kp [] w0 w' ∧ Grp w' w0.heap.size g (playN ps)) := by
  refine enter (n := 118) Tryd.func6 rfl rfl rfl (fun ac F => ?_)
  have kp0 := Kp.refl ([] : List Nat) w0
  have hls := hl0
  refine c_seq (fun K1 H2 => ?_)
  refine c_region ?_
  refine stp F (f_assign rfl) rfl rfl rfl (fun ac F => ?_)
  refine stp F (f_assign rfl) rfl rfl rfl (fun ac F => ?_)
  refine stpEnd ?_
  refine H2 _ _ ?_
  refine c_seq (fun K3 H4 => ?_)
  refine c_region ?_
  refine stp F (f_build (vs := []) (v := .agg #[.int .i64 0, .int .i64 0, .int .i64 0, .int .i64 0, .int .i64 0, .int .i64 0, .int .i64 0, .slice none 0 0, .int .i64 0, .int .i64 0, .int .i64 0, .int .i64 0, .int .i64 0, .int .i64 0, .int .i64 0, .slice none 0 0, .int .i64 0, .int .i64 0, .int .i64 0, .int .i64 0, .int .i64 0, .int .i64 0, .int .i64 0, .slice none 0 0, .int .i64 0, .int .i64 0, .int .i64 0, .int .i64 0, .int .i64 0, .int .i64 0, .int .i64 0, .slice none 0 0, .slice none 0 0, .slice none 0 0, .slice none 0 0, .slice none 0 0, .slice none 0 0]) rfl (fun w => by kernel_rfl)) rfl rfl rfl (fun ac F => ?_)
  refine stpE F (f_box (cs := [.int .i64 0, .int .i64 0, .int .i64 0, .int .i64 0, .int .i64 0, .int .i64 0, .int .i64 0, .slice none 0 0, .int .i64 0, .int .i64 0, .int .i64 0, .int .i64 0, .int .i64 0, .int .i64 0, .int .i64 0, .slice none 0 0, .int .i64 0, .int .i64 0, .int .i64 0, .int .i64 0, .int .i64 0, .int .i64 0, .int .i64 0, .slice none 0 0, .int .i64 0, .int .i64 0, .int .i64 0, .int .i64 0, .int .i64 0, .int .i64 0, .int .i64 0, .slice none 0 0, .slice none 0 0, .slice none 0 0, .slice none 0 0, .slice none 0 0, .slice none 0 0]) rfl rfl) rfl rfl rfl ?_
  rintro _ w6 ac ⟨g5, rfl, nb8⟩ F
  have n9 := nb8.num
  have z10 := nb8.size
  have hsz := (nb8.kp).size
  replace hl0 := hl0.keep (nb8.kp) (by simp)
  replace kp0 := kp0.trans (nb8.kp) (by simp)
  have hb7 : Blk w6 g5 36 (grpL (meK 0) (fun _ _ => 0) (fun _ => ⟨none, 0, []⟩)) := nb8.blk
  refine stp F (f_assign rfl) rfl rfl rfl (fun ac F => ?_)
  refine stpEnd ?_
  refine H4 _ _ ?_
  refine c_seq (fun K11 H12 => ?_)
  refine c_seq (fun K13 H14 => ?_)
  refine c_region ?_
  refine stp F (f_move rfl) rfl rfl rfl (fun ac F => ?_)
  refine stpEnd ?_
  refine H14 _ _ ?_
  refine wp_block ?_
  have hR : Rows w6 w0.heap.size g5 (fun _ => ⟨none, 0, []⟩) := rows0 (by omega) (by omega)
  refine c_loop (fun mx ax wx => ∃ (k : Nat), Fr ax 118 [(0, .slice A ps.length c), (4, .pointer (some ⟨g5, 0, none⟩)), (14, .int .i64 (k : Int))] ∧ Kp [] w0 wx ∧ Blk wx g5 36 (grpL (meK k) (fun _ _ => 0) (fun _ => ⟨none, 0, []⟩)) ∧ Rows wx w0.heap.size g5 (fun _ => ⟨none, 0, []⟩) ∧ (k ≤ 4) ∧ mx = 4 - k) (4 - 0) ?_ ?_
  · exact ⟨0, F.sub ⟨rfl, rfl, rfl, trivial⟩, kp0, hb7, hR, by omega, rfl⟩
  · clear F kp0 hl0 hb7
    rintro m16 ac wl15 ⟨k, F, kp0, hg, hR, hk4, hm⟩
    have hsz := kp0.size
    have lt_hg := hg.lt
    refine c_seq (fun K17 H18 => ?_)
    refine c_region ?_
    refine stp F (f_lss rfl rfl) rfl rfl rfl (fun ac F => ?_)
    refine stpEnd ?_
    refine H18 _ _ ?_
    refine c_seq (fun K19 H20 => ?_)
    by_cases hc21 : (k : Int) < 4
    · have hc := hc21
      replace F := F.setb (k := 15) (b' := true) rfl (decide_eq_true hc)
      clear hc
      refine c_true F rfl ?_
      refine wp_skip ?_
      refine H20 _ _ ?_
      refine c_seq (fun K22 H23 => ?_)
      refine wp_block ?_
      refine c_seq (fun K24 H25 => ?_)
      refine c_region ?_
      refine stp F (f_move rfl) rfl rfl rfl (fun ac F => ?_)
      refine stp F (f_assign rfl) rfl rfl rfl (fun ac F => ?_)
      refine stpEnd ?_
      refine H25 _ _ ?_
      refine c_region ?_
      refine stp F (f_move rfl) rfl rfl rfl (fun ac F => ?_)
      refine stp F (f_move rfl) rfl rfl rfl (fun ac F => ?_)
      refine stp F (f_move rfl) rfl rfl rfl (fun ac F => ?_)
      refine stp F (f_nilCheck rfl) rfl rfl rfl (fun ac F => ?_)
      refine stp F (f_fieldAddr (r := ⟨g5, 0, none⟩) (sz := 31) rfl Tryd.underlying36 rfl Tryd.sizeOf33 rfl) rfl rfl rfl (fun ac F => ?_)
      refine stp F (f_indexA (r := ⟨g5, k * 8, none⟩) rfl rfl Tryd.underlying33 Tryd.sizeOf32 (by omega) (by omega) (add_eq (by omega))) rfl rfl rfl (fun ac F => ?_)
      refine stp F (f_fieldAddr (r := ⟨g5, k * 8 + 0, none⟩) (sz := 0) rfl Tryd.underlying32 rfl Tryd.sizeOf3 (add_mk _ _ _)) rfl rfl rfl (fun ac F => ?_)
      refine stpW F (f_store (v := .int .i64 (k : Int)) (vs := [.int .i64 (k : Int)]) rfl rfl hg Tryd.sizeOf3 rfl rfl (by rw [grpL_len]; simp; omega) (by simp [plainV])) rfl rfl ?_
      rintro w26 ac wr27 F
      have z28 := wr27.size
      have hsz := (wr27.kp).size
      replace hR := hR.atg (wr27.kp)
      replace kp0 := kp0.trans (wr27.kp) (by intro x hx hl; simp at hx; omega)
      replace hg : Blk w26 g5 36 (grpL (upd (meK k) k (k : Int)) (fun _ _ => 0) (fun _ => ⟨none, 0, []⟩)) := ((wr27.blk).eqv (grp_putM (by omega) rfl))
      refine stpEnd ?_
      refine H23 _ _ ?_
      refine c_region ?_
      refine stp F (f_add (r := ((k + 1 : Nat) : Int)) rfl rfl (by rw [IntKind.wrap_i64]; omega)) rfl rfl rfl (fun ac F => ?_)
      refine stp F (f_move rfl) rfl rfl rfl (fun ac F => ?_)
      refine stpEnd ?_
      rw [meK_upd] at hg
      refine ⟨4 - (k + 1), ?_, (k + 1), F.sub ⟨rfl, rfl, rfl, trivial⟩, kp0, hg, hR, by omega, rfl⟩
      omega
    · have hc := hc21
      replace F := F.setb (k := 15) (b' := false) rfl (decide_eq_false hc)
      clear hc
      refine c_false F rfl ?_
      refine wp_exit ?_
      refine H12 _ _ ?_
      refine c_seq (fun K29 H30 => ?_)
      refine c_seq (fun K31 H32 => ?_)
      refine c_region ?_
      refine stp F (f_move rfl) rfl rfl rfl (fun ac F => ?_)
      refine stp F (f_len rfl Tryd.underlying22) rfl rfl rfl (fun ac F => ?_)
      refine stp F (f_move rfl) rfl rfl rfl (fun ac F => ?_)
      refine stpEnd ?_
      refine H32 _ _ ?_
      refine wp_block ?_
      have hk44 : k = 4 := by omega
      subst hk44
      rw [grpL_idn] at hg
      refine c_loop (fun mx ax wx => ∃ (k : Nat), ∃ (sn : Nat → Nat → Int), ∃ (R : Nat → Rw), Fr ax 118 [(4, .pointer (some ⟨g5, 0, none⟩)), (25, .slice A ps.length c), (26, .int .i64 ((ps.length : Nat) : Int)), (27, .int .i64 (k : Int))] ∧ Kp [] w0 wx ∧ Blk wx g5 36 (grpL idn sn R) ∧ Rows wx w0.heap.size g5 R ∧ (k ≤ ps.length) ∧ ((ps.take k).foldl stepG play0 = ⟨sn, Vs R⟩) ∧ mx = ps.length - k) (ps.length - 0) ?_ ?_
      · exact ⟨0, (fun _ _ => 0), (fun _ => ⟨none, 0, []⟩), F.sub ⟨rfl, rfl, rfl, rfl, trivial⟩, kp0, hg, hR, by omega, rfl, rfl⟩
      · clear F kp0 hg hR
        rintro m34 ac wl33 ⟨k, sn, R, F, kp0, hg, hR, hk, hG, hm⟩
        have hsz := kp0.size
        have lt_hg := hg.lt
        have hRl := hR.lt9
        refine c_seq (fun K35 H36 => ?_)
        refine c_region ?_
        refine stp F (f_lss rfl rfl) rfl rfl rfl (fun ac F => ?_)
        refine stpEnd ?_
        refine H36 _ _ ?_
        refine c_seq (fun K37 H38 => ?_)
        by_cases hc39 : (k : Int) < ((ps.length : Nat) : Int)
        · have hc := hc39
          replace F := F.setb (k := 28) (b' := true) rfl (decide_eq_true hc)
          clear hc
          refine c_true F rfl ?_
          refine wp_skip ?_
          refine H38 _ _ ?_
          refine c_seq (fun K40 H41 => ?_)
          refine wp_block ?_
          refine c_seq (fun K42 H43 => ?_)
          have hkk : k < ps.length := by omega
          have hl := hls.keep kp0 (by simp)
          have hpx := hps _ (getD_in hkk : (ps.getD k default) ∈ ps)
          have hO : Ok ⟨sn, Vs R⟩ := hG ▸ hOk k
          refine c_region ?_
          refine stp F (f_indexS (r := ((adr A).add (k * 3))) rfl rfl Tryd.underlying22 Tryd.sizeOf27 (by omega) (by omega) (hl.some_ (by omega)).1 (by rw [show Int.toNat (k : Int) = k from by omega])) rfl rfl rfl (fun ac F => ?_)
          refine stp F (f_loadN rfl Tryd.isAgg27 Tryd.sizeOf27 (hl.rd (i := k) (by omega) rfl)) rfl rfl rfl (fun ac F => ?_)
          refine stpE F (f_alloc (cs := [.int .i64 0, .int .i64 0, .int .i64 0]) Tryd.zeroValue27 rfl) rfl rfl rfl ?_
          rintro _ w45 ac ⟨g44, rfl, nb47⟩ F
          have n48 := nb47.num
          have z49 := nb47.size
          have hsz := (nb47.kp).size
          replace hg := hg.keep (nb47.kp) (by simp)
          replace hR := hR.nil (nb47.kp)
          replace hl := hl.keep (nb47.kp) (by simp)
          replace kp0 := kp0.trans (nb47.kp) (by simp)
          have hb46 : Blk w45 g44 27 ([.int .i64 0, .int .i64 0, .int .i64 0]) := nb47.blk
          refine stpW F (f_store (v := .agg #[.int .i64 ((ps.getD k default).kind), .int .i64 ((ps.getD k default).who), .int .i64 ((ps.getD k default).n)]) (vs := [.int .i64 ((ps.getD k default).kind), .int .i64 ((ps.getD k default).who), .int .i64 ((ps.getD k default).n)]) rfl rfl hb46 Tryd.sizeOf27 rfl rfl (by simp) (by simp [plainV])) rfl rfl ?_
          rintro w50 ac wr51 F
          have z52 := wr51.size
          have hsz := (wr51.kp).size
          replace hg := hg.keep (wr51.kp) (by have := hg.lt; simp; omega)
          replace hR := hR.keep (wr51.kp) (by intro r hr x hx hm; have h1 := hRl r hr x hx; simp at hm; omega)
          replace hl := hl.keep (wr51.kp) (by intro x hx; simp at hx; omega)
          replace kp0 := kp0.trans (wr51.kp) (by intro x hx hl; simp at hx; omega)
          replace hb46 : Blk w50 g44 27 ([.int .i64 ((ps.getD k default).kind), .int .i64 ((ps.getD k default).who), .int .i64 ((ps.getD k default).n)]) := wr51.blk
          refine stpEnd ?_
          refine H43 _ _ ?_
          refine c_seq (fun K53 H54 => ?_)
          refine c_region ?_
          refine stp F (f_fieldAddr (r := ⟨g44, 1, none⟩) (sz := 0) rfl Tryd.underlying27 rfl Tryd.sizeOf3 rfl) rfl rfl rfl (fun ac F => ?_)
          refine stp F (f_load1 (v := .int .i64 ((ps.getD k default).who)) rfl Tryd.isAgg3 ((hb46.cell 1).trans rfl)) rfl rfl rfl (fun ac F => ?_)
          refine stpC F (f_call (P := Tryd.prog) (f := 7) (vs := [.int .i64 ((ps.getD k default).who), .int .i64 4]) rfl Tryd.call7) (rest_c ((ps.getD k default).who) 4 w50 hpx.2.1 (by omega)) rfl rfl rfl ?_
          rintro _ w55 ac ⟨rfl, kq56⟩ F
          have hsz := (kq56).size
          replace hg := hg.keep (kq56) (by simp)
          replace hR := hR.nil (kq56)
          replace hl := hl.keep (kq56) (by simp)
          replace hb46 := hb46.keep (kq56) (by simp)
          replace kp0 := kp0.trans (kq56) (by simp)
          refine stp F (f_assign rfl) rfl rfl rfl (fun ac F => ?_)
          refine stpEnd ?_
          obtain ⟨p, hp, hpe, hpn⟩ := who4 (ps.getD k default).who
          rw [hpe] at F
          refine H54 _ _ ?_
          refine c_seq (fun K57 H58 => ?_)
          refine c_region ?_
          refine stp F (f_fieldAddr (r := ⟨g44, 0, none⟩) (sz := 0) rfl Tryd.underlying27 rfl Tryd.sizeOf3 rfl) rfl rfl rfl (fun ac F => ?_)
          refine stp F (f_load1 (v := .int .i64 ((ps.getD k default).kind)) rfl Tryd.isAgg3 ((hb46.cell 0).trans rfl)) rfl rfl rfl (fun ac F => ?_)
          refine stp F (f_eql rfl rfl) rfl rfl rfl (fun ac F => ?_)
          refine stpEnd ?_
          refine H58 _ _ ?_
          by_cases hc59 : (ps.getD k default).kind = 0
          · have hc := hc59
            replace F := F.setb (k := 36) (b' := true) rfl (decide_eq_true hc)
            clear hc
            refine c_true F rfl ?_
            refine c_seq (fun K60 H61 => ?_)
            have hR0 := hR
            have hRl := hR.lt9
            have hk0 := Kp.refl ([] : List Nat) w55
            have h4 := (hR.own 4 (by omega)).msl
            have hlt := hR.lt
            have h4n := hO.len
            have h5n := hO.told p hp
            simp only [Vs] at h4n h5n
            have lt_hg := hg.lt
            have lt_hb46 := hb46.lt
            refine c_drawH [0, 1, 2, 3, 4, 5, 6, 7, 8, 9, 10, 11, 12, 13, 14, 15, 16, 17, 18, 19, 20, 21] [] (fun i => [.pure, .pure, .pure, .pure, .pure, .quiet, .pure, .pure, .pure, .quiet, .pure, .quiet, .big, .pure, .pure, .pure, .pure, .new, .new, .own, .own, .pure].getD i .pure) ([] : List Nat) w55.heap.size (by simp) (by rfl) (by decide +kernel) (fun wx => Kp [] w55 wx) (fun wx => Kp [] w55 wx) (⟨fun wa wb hC_ kk => by have hq := hC_; exact hq.trans kk (by simp), fun wa hC_ => hC_.size⟩) (Kp.mono (Kp.drew _) (by simp)) ?_
            refine gP F rfl (fun wq => f_move rfl) rfl rfl rfl (fun ac F => ?_)
            refine gP F rfl (fun wq => f_move rfl) rfl rfl rfl (fun ac F => ?_)
            refine gP F rfl (fun wq => f_nilCheck rfl) rfl rfl rfl (fun ac F => ?_)
            refine gP F rfl (fun wq => f_fieldAddr (r := ⟨g5, 0, none⟩) (sz := 31) rfl Tryd.underlying36 rfl Tryd.sizeOf33 rfl) rfl rfl rfl (fun ac F => ?_)
            refine gP F rfl (fun wq => f_indexA (r := ⟨g5, p * 8, none⟩) rfl rfl Tryd.underlying33 Tryd.sizeOf32 (by omega) (by omega) (add_eq (by omega))) rfl rfl rfl (fun ac F => ?_)
            refine gQ F rfl (fun wq hq => f_loadN rfl Tryd.isAgg32 Tryd.sizeOf32 (grp_rd (hg.keep hq (by simp)) (p := p) (by omega) (by omega))) (fun _ h => h) rfl rfl rfl (fun ac F => ?_)
            refine gP F rfl (fun wq => f_move rfl) rfl rfl rfl (fun ac F => ?_)
            refine gP F rfl (fun wq => f_nilCheck rfl) rfl rfl rfl (fun ac F => ?_)
            refine gP F rfl (fun wq => f_fieldAddr (r := ⟨g5, 32, none⟩) (sz := 0) rfl Tryd.underlying36 rfl Tryd.sizeOf28 rfl) rfl rfl rfl (fun ac F => ?_)
            refine gQ F rfl (fun wq hq => f_load1 (v := .slice ((R 4).A) ((R 4).vs.length) ((R 4).c)) rfl Tryd.isAgg28 (((hg.keep hq (by simp)).cell _).trans rfl)) (fun _ h => h) rfl rfl rfl (fun ac F => ?_)
            refine gP F rfl (fun wq => f_len rfl Tryd.underlying28) rfl rfl rfl (fun ac F => ?_)
            refine gC F rfl (fun wq => f_call (P := Tryd.prog) (f := 12) (vs := [.int .i64 (((R 4).vs.length : Nat) : Int)]) rfl Tryd.call12) (fun wq hq => itoa_c (R 4).vs.length (by omega) wq (htab.kp (kp0.trans hq (by simp)))) (fun _ h => h) rfl rfl rfl (fun ac F => ?_)
            refine gB F rfl (ι := Option Addr × Nat) (none, 0) (fun x => .tuple #[csV (castR p (sn p) (R p).vs (itoaB (R 4).vs.length)).me (castR p (sn p) (R p).vs (itoaB (R 4).vs.length)).s x.1 (castR p (sn p) (R p).vs (itoaB (R 4).vs.length)).hold.length x.2, mlV (castR p (sn p) (R p).vs (itoaB (R 4).vs.length)).m, .int .i64 (castR p (sn p) (R p).vs (itoaB (R 4).vs.length)).e]) (fun x wx => Kp [] w55 wx ∧ Own wx w55.heap.size 38 8 x.1 x.2 ((castR p (sn p) (R p).vs (itoaB (R 4).vs.length)).hold.map mlV) ∧ ((castR p (sn p) (R p).vs (itoaB (R 4).vs.length)).hold = [] → x.2 = 0)) (fun wq => f_call (P := Tryd.prog) (f := 11) (vs := [.agg #[.int .i64 (p : Int), .int .i64 ((sn p) 0), .int .i64 ((sn p) 1), .int .i64 ((sn p) 2), .int .i64 ((sn p) 3), .int .i64 ((sn p) 4), .int .i64 ((sn p) 5), .slice ((R p).A) ((R p).vs.length) ((R p).c)], .string (itoaB (R 4).vs.length)]) rfl Tryd.call11) (fun x => ⟨fun wa wb h k => ⟨h.1.trans k (by simp), h.2.1.keep k (by simp), h.2.2⟩, fun _ h => h.1.size⟩) (fun x _ h => h.1) (fun wq hq => (cast_r (R p).A (R p).c p (sn p) (R p).vs (itoaB (R 4).vs.length) wq (((hR.own p (by omega)).msl.more (Nat.zero_le _) (Nat.le_refl _)).keep hq (by simp) |>.more (Nat.le_refl _) hq.size) (hO.valid p hp)).mono fun e w' h => by cases e <;> first | exact h.elim | (obtain ⟨A', c', rfl, k1, o1, o2⟩ := h; exact ⟨k1, (A', c'), rfl, hq.trans k1 (by simp), o1.more hq.size, o2⟩)) rfl rfl rfl (fun x ac F => ?_)
            obtain ⟨A2, c2⟩ := x
            refine gP F rfl (fun wq => f_move rfl) rfl rfl rfl (fun ac F => ?_)
            refine gP F rfl (fun wq => f_extract (vs := [.agg #[.int .i64 ((castR p (sn p) (R p).vs (itoaB (R 4).vs.length)).me), .int .i64 ((castR p (sn p) (R p).vs (itoaB (R 4).vs.length)).s 0), .int .i64 ((castR p (sn p) (R p).vs (itoaB (R 4).vs.length)).s 1), .int .i64 ((castR p (sn p) (R p).vs (itoaB (R 4).vs.length)).s 2), .int .i64 ((castR p (sn p) (R p).vs (itoaB (R 4).vs.length)).s 3), .int .i64 ((castR p (sn p) (R p).vs (itoaB (R 4).vs.length)).s 4), .int .i64 ((castR p (sn p) (R p).vs (itoaB (R 4).vs.length)).s 5), .slice A2 ((castR p (sn p) (R p).vs (itoaB (R 4).vs.length)).hold.length) c2], .agg #[.int .i64 ((castR p (sn p) (R p).vs (itoaB (R 4).vs.length)).m.f), .int .i64 ((castR p (sn p) (R p).vs (itoaB (R 4).vs.length)).m.a 0), .int .i64 ((castR p (sn p) (R p).vs (itoaB (R 4).vs.length)).m.a 1), .int .i64 ((castR p (sn p) (R p).vs (itoaB (R 4).vs.length)).m.a 2), .int .i64 ((castR p (sn p) (R p).vs (itoaB (R 4).vs.length)).m.a 3), .int .i64 ((castR p (sn p) (R p).vs (itoaB (R 4).vs.length)).m.a 4), .int .i64 ((castR p (sn p) (R p).vs (itoaB (R 4).vs.length)).m.a 5), .string ((castR p (sn p) (R p).vs (itoaB (R 4).vs.length)).m.t)], .int .i64 ((castR p (sn p) (R p).vs (itoaB (R 4).vs.length)).e)]) rfl rfl) rfl rfl rfl (fun ac F => ?_)
            refine gP F rfl (fun wq => f_extract (vs := [.agg #[.int .i64 ((castR p (sn p) (R p).vs (itoaB (R 4).vs.length)).me), .int .i64 ((castR p (sn p) (R p).vs (itoaB (R 4).vs.length)).s 0), .int .i64 ((castR p (sn p) (R p).vs (itoaB (R 4).vs.length)).s 1), .int .i64 ((castR p (sn p) (R p).vs (itoaB (R 4).vs.length)).s 2), .int .i64 ((castR p (sn p) (R p).vs (itoaB (R 4).vs.length)).s 3), .int .i64 ((castR p (sn p) (R p).vs (itoaB (R 4).vs.length)).s 4), .int .i64 ((castR p (sn p) (R p).vs (itoaB (R 4).vs.length)).s 5), .slice A2 ((castR p (sn p) (R p).vs (itoaB (R 4).vs.length)).hold.length) c2], .agg #[.int .i64 ((castR p (sn p) (R p).vs (itoaB (R 4).vs.length)).m.f), .int .i64 ((castR p (sn p) (R p).vs (itoaB (R 4).vs.length)).m.a 0), .int .i64 ((castR p (sn p) (R p).vs (itoaB (R 4).vs.length)).m.a 1), .int .i64 ((castR p (sn p) (R p).vs (itoaB (R 4).vs.length)).m.a 2), .int .i64 ((castR p (sn p) (R p).vs (itoaB (R 4).vs.length)).m.a 3), .int .i64 ((castR p (sn p) (R p).vs (itoaB (R 4).vs.length)).m.a 4), .int .i64 ((castR p (sn p) (R p).vs (itoaB (R 4).vs.length)).m.a 5), .string ((castR p (sn p) (R p).vs (itoaB (R 4).vs.length)).m.t)], .int .i64 ((castR p (sn p) (R p).vs (itoaB (R 4).vs.length)).e)]) rfl rfl) rfl rfl rfl (fun ac F => ?_)
            refine gP F rfl (fun wq => f_extract (vs := [.agg #[.int .i64 ((castR p (sn p) (R p).vs (itoaB (R 4).vs.length)).me), .int .i64 ((castR p (sn p) (R p).vs (itoaB (R 4).vs.length)).s 0), .int .i64 ((castR p (sn p) (R p).vs (itoaB (R 4).vs.length)).s 1), .int .i64 ((castR p (sn p) (R p).vs (itoaB (R 4).vs.length)).s 2), .int .i64 ((castR p (sn p) (R p).vs (itoaB (R 4).vs.length)).s 3), .int .i64 ((castR p (sn p) (R p).vs (itoaB (R 4).vs.length)).s 4), .int .i64 ((castR p (sn p) (R p).vs (itoaB (R 4).vs.length)).s 5), .slice A2 ((castR p (sn p) (R p).vs (itoaB (R 4).vs.length)).hold.length) c2], .agg #[.int .i64 ((castR p (sn p) (R p).vs (itoaB (R 4).vs.length)).m.f), .int .i64 ((castR p (sn p) (R p).vs (itoaB (R 4).vs.length)).m.a 0), .int .i64 ((castR p (sn p) (R p).vs (itoaB (R 4).vs.length)).m.a 1), .int .i64 ((castR p (sn p) (R p).vs (itoaB (R 4).vs.length)).m.a 2), .int .i64 ((castR p (sn p) (R p).vs (itoaB (R 4).vs.length)).m.a 3), .int .i64 ((castR p (sn p) (R p).vs (itoaB (R 4).vs.length)).m.a 4), .int .i64 ((castR p (sn p) (R p).vs (itoaB (R 4).vs.length)).m.a 5), .string ((castR p (sn p) (R p).vs (itoaB (R 4).vs.length)).m.t)], .int .i64 ((castR p (sn p) (R p).vs (itoaB (R 4).vs.length)).e)]) rfl rfl) rfl rfl rfl (fun ac F => ?_)
            refine gN F rfl (n_alloc Tryd.zeroValue32 rfl) rfl rfl rfl (fun g9 ac hN_g9 F => ?_)
            refine wpG_sub (D := (fun wx => Kp [] w55 wx ∧ Own wx w55.heap.size 38 8 A2 c2 ((castR p (sn p) (R p).vs (itoaB (R 4).vs.length)).hold.map mlV) ∧ ((castR p (sn p) (R p).vs (itoaB (R 4).vs.length)).hold = [] → c2 = 0) ∧ Blk wx g9 32 ([.int .i64 0, .int .i64 0, .int .i64 0, .int .i64 0, .int .i64 0, .int .i64 0, .int .i64 0, .slice none 0 0]))) (Gd.and (⟨fun wa wb hC_ kk => by obtain ⟨hq, ho, hc0⟩ := hC_; exact ⟨hq.trans kk (by simp), ho.keep kk (by simp), hc0⟩, fun wa hC_ => hC_.1.size⟩) blk_nil) (fun w_ h_ => by obtain ⟨⟨hq, ho, hc0⟩, hnew_⟩ := h_; exact ⟨hq, ho, hc0, hnew_⟩) ?_
            refine gN F rfl (n_alloc Tryd.zeroValue38 rfl) rfl rfl rfl (fun g10 ac hN_g10 F => ?_)
            refine wpG_sub (D := (fun wx => Kp [] w55 wx ∧ Own wx w55.heap.size 38 8 A2 c2 ((castR p (sn p) (R p).vs (itoaB (R 4).vs.length)).hold.map mlV) ∧ ((castR p (sn p) (R p).vs (itoaB (R 4).vs.length)).hold = [] → c2 = 0) ∧ Blk wx g9 32 ([.int .i64 0, .int .i64 0, .int .i64 0, .int .i64 0, .int .i64 0, .int .i64 0, .int .i64 0, .slice none 0 0]) ∧ Blk wx g10 38 ([.int .i64 0, .int .i64 0, .int .i64 0, .int .i64 0, .int .i64 0, .int .i64 0, .int .i64 0, .string ByteArray.empty]))) (Gd.and (⟨fun wa wb hC_ kk => by obtain ⟨hq, ho, hc0, hb_g9⟩ := hC_; exact ⟨hq.trans kk (by simp), ho.keep kk (by simp), hc0, hb_g9.keep kk (by simp)⟩, fun wa hC_ => hC_.1.size⟩) blk_nil) (fun w_ h_ => by obtain ⟨⟨hq, ho, hc0, hb_g9⟩, hnew_⟩ := h_; exact ⟨hq, ho, hc0, hb_g9, hnew_⟩) ?_
            have hcf : ∀ m ∈ (castR p (sn p) (R p).vs (itoaB (R 4).vs.length)).hold, Formed m := fun m hm => by rcases castK_e ⟨sn, Vs R⟩ p with h | h; (have h2 := castR_none h; exact absurd hm (by rw [h2]; simp)); rw [h.2.2.1] at hm; exact ((hO.valid p hp).all m hm).1
            refine wpG_sub (C := (fun wx => Kp [] w55 wx ∧ Own wx w55.heap.size 38 8 A2 c2 ((castR p (sn p) (R p).vs (itoaB (R 4).vs.length)).hold.map mlV) ∧ ((castR p (sn p) (R p).vs (itoaB (R 4).vs.length)).hold = [] → c2 = 0) ∧ Blk wx g9 32 ([.int .i64 0, .int .i64 0, .int .i64 0, .int .i64 0, .int .i64 0, .int .i64 0, .int .i64 0, .slice none 0 0]) ∧ Blk wx g10 38 ([.int .i64 0, .int .i64 0, .int .i64 0, .int .i64 0, .int .i64 0, .int .i64 0, .int .i64 0, .string ByteArray.empty]))) (D := (fun wx => Kp [] w55 wx ∧ Own wx w55.heap.size 38 8 A2 c2 ((castR p (sn p) (R p).vs (itoaB (R 4).vs.length)).hold.map mlV) ∧ ((castR p (sn p) (R p).vs (itoaB (R 4).vs.length)).hold = [] → c2 = 0) ∧ Blk wx g9 32 ([.int .i64 0, .int .i64 0, .int .i64 0, .int .i64 0, .int .i64 0, .int .i64 0, .int .i64 0, .slice none 0 0]) ∧ Blk wx g10 38 ([.int .i64 0, .int .i64 0, .int .i64 0, .int .i64 0, .int .i64 0, .int .i64 0, .int .i64 0, .string ByteArray.empty]) ∧ (∀ x ∈ ob A2, x ≠ g9 ∧ x ≠ g10) ∧ (g9 ≠ g10))) (⟨fun wa wb hC_ kk => by obtain ⟨hq, ho, hc0, hb_g9, hb_g10⟩ := hC_; exact ⟨hq.trans kk (by simp), ho.keep kk (by simp), hc0, hb_g9.keep kk (by simp), hb_g10.keep kk (by simp)⟩, fun wa hC_ => hC_.1.size⟩) (fun w_ hC_ => by obtain ⟨hq, ho, hc0, hb_g9, hb_g10⟩ := hC_; exact ⟨hq, ho, hc0, hb_g9, hb_g10, fun x hx => ⟨ho.ne hb_g9 (by decide) x hx, own_fresh ho hc0 hcf hb_g10 x hx⟩, hb_g9.two hb_g10 (.inl (by decide))⟩) ?_
            refine gO F rfl (fun wx => Kp [] w55 wx ∧ Own wx w55.heap.size 38 8 A2 c2 ((castR p (sn p) (R p).vs (itoaB (R 4).vs.length)).hold.map mlV) ∧ ((castR p (sn p) (R p).vs (itoaB (R 4).vs.length)).hold = [] → c2 = 0) ∧ Blk wx g9 32 ([.int .i64 ((castR p (sn p) (R p).vs (itoaB (R 4).vs.length)).me), .int .i64 ((castR p (sn p) (R p).vs (itoaB (R 4).vs.length)).s 0), .int .i64 ((castR p (sn p) (R p).vs (itoaB (R 4).vs.length)).s 1), .int .i64 ((castR p (sn p) (R p).vs (itoaB (R 4).vs.length)).s 2), .int .i64 ((castR p (sn p) (R p).vs (itoaB (R 4).vs.length)).s 3), .int .i64 ((castR p (sn p) (R p).vs (itoaB (R 4).vs.length)).s 4), .int .i64 ((castR p (sn p) (R p).vs (itoaB (R 4).vs.length)).s 5), .slice A2 ((castR p (sn p) (R p).vs (itoaB (R 4).vs.length)).hold.length) c2]) ∧ Blk wx g10 38 ([.int .i64 0, .int .i64 0, .int .i64 0, .int .i64 0, .int .i64 0, .int .i64 0, .int .i64 0, .string ByteArray.empty]) ∧ (∀ x ∈ ob A2, x ≠ g9 ∧ x ≠ g10) ∧ (g9 ≠ g10)) (fun wq hC_ => by obtain ⟨hq, ho, hc0, hb_g9, hb_g10, hob0, hne⟩ := hC_; exact f_store (v := .agg #[.int .i64 ((castR p (sn p) (R p).vs (itoaB (R 4).vs.length)).me), .int .i64 ((castR p (sn p) (R p).vs (itoaB (R 4).vs.length)).s 0), .int .i64 ((castR p (sn p) (R p).vs (itoaB (R 4).vs.length)).s 1), .int .i64 ((castR p (sn p) (R p).vs (itoaB (R 4).vs.length)).s 2), .int .i64 ((castR p (sn p) (R p).vs (itoaB (R 4).vs.length)).s 3), .int .i64 ((castR p (sn p) (R p).vs (itoaB (R 4).vs.length)).s 4), .int .i64 ((castR p (sn p) (R p).vs (itoaB (R 4).vs.length)).s 5), .slice A2 ((castR p (sn p) (R p).vs (itoaB (R 4).vs.length)).hold.length) c2]) (vs := [.int .i64 ((castR p (sn p) (R p).vs (itoaB (R 4).vs.length)).me), .int .i64 ((castR p (sn p) (R p).vs (itoaB (R 4).vs.length)).s 0), .int .i64 ((castR p (sn p) (R p).vs (itoaB (R 4).vs.length)).s 1), .int .i64 ((castR p (sn p) (R p).vs (itoaB (R 4).vs.length)).s 2), .int .i64 ((castR p (sn p) (R p).vs (itoaB (R 4).vs.length)).s 3), .int .i64 ((castR p (sn p) (R p).vs (itoaB (R 4).vs.length)).s 4), .int .i64 ((castR p (sn p) (R p).vs (itoaB (R 4).vs.length)).s 5), .slice A2 ((castR p (sn p) (R p).vs (itoaB (R 4).vs.length)).hold.length) c2]) rfl rfl hb_g9 Tryd.sizeOf32 rfl rfl (by simp) (by simp [plainV])) (⟨fun wa wb hC_ kk => by obtain ⟨hq, ho, hc0, hb_g9, hb_g10, hob0, hne⟩ := hC_; exact ⟨hq.trans kk (by simp), ho.keep kk (by simp), hc0, hb_g9.keep kk (by simp), hb_g10.keep kk (by simp), hob0, hne⟩, fun wa hC_ => hC_.1.size⟩) (fun wa wb hC_ wr_ => by obtain ⟨hq, ho, hc0, hb_g9, hb_g10, hob0, hne⟩ := hC_; exact ⟨(hq.mono (by intro x hx _; first | exact hx | simp [hx] | simp at hx)).trans wr_.kp (by intro x hx hl; simp at hx; first | omega | simp [hx]), ho.keep wr_.kp (by intro x hx hm; have h1 := ho.base_le x hx; (try have h2 := hob0 x hx); (try have h3 := hob1 x hx); simp at hm; omega), hc0, wr_.blk, hb_g10.keep wr_.kp (by have := hb_g10.lt; simp; omega), hob0, hne⟩) rfl rfl (fun ac F => ?_)
            refine gO F rfl (fun wx => Kp [] w55 wx ∧ Own wx w55.heap.size 38 8 A2 c2 ((castR p (sn p) (R p).vs (itoaB (R 4).vs.length)).hold.map mlV) ∧ ((castR p (sn p) (R p).vs (itoaB (R 4).vs.length)).hold = [] → c2 = 0) ∧ Blk wx g9 32 ([.int .i64 ((castR p (sn p) (R p).vs (itoaB (R 4).vs.length)).me), .int .i64 ((castR p (sn p) (R p).vs (itoaB (R 4).vs.length)).s 0), .int .i64 ((castR p (sn p) (R p).vs (itoaB (R 4).vs.length)).s 1), .int .i64 ((castR p (sn p) (R p).vs (itoaB (R 4).vs.length)).s 2), .int .i64 ((castR p (sn p) (R p).vs (itoaB (R 4).vs.length)).s 3), .int .i64 ((castR p (sn p) (R p).vs (itoaB (R 4).vs.length)).s 4), .int .i64 ((castR p (sn p) (R p).vs (itoaB (R 4).vs.length)).s 5), .slice A2 ((castR p (sn p) (R p).vs (itoaB (R 4).vs.length)).hold.length) c2]) ∧ Blk wx g10 38 ([.int .i64 ((castR p (sn p) (R p).vs (itoaB (R 4).vs.length)).m.f), .int .i64 ((castR p (sn p) (R p).vs (itoaB (R 4).vs.length)).m.a 0), .int .i64 ((castR p (sn p) (R p).vs (itoaB (R 4).vs.length)).m.a 1), .int .i64 ((castR p (sn p) (R p).vs (itoaB (R 4).vs.length)).m.a 2), .int .i64 ((castR p (sn p) (R p).vs (itoaB (R 4).vs.length)).m.a 3), .int .i64 ((castR p (sn p) (R p).vs (itoaB (R 4).vs.length)).m.a 4), .int .i64 ((castR p (sn p) (R p).vs (itoaB (R 4).vs.length)).m.a 5), .string ((castR p (sn p) (R p).vs (itoaB (R 4).vs.length)).m.t)]) ∧ (∀ x ∈ ob A2, x ≠ g9 ∧ x ≠ g10) ∧ (g9 ≠ g10)) (fun wq hC_ => by obtain ⟨hq, ho, hc0, hb_g9, hb_g10, hob0, hne⟩ := hC_; exact f_store (v := .agg #[.int .i64 ((castR p (sn p) (R p).vs (itoaB (R 4).vs.length)).m.f), .int .i64 ((castR p (sn p) (R p).vs (itoaB (R 4).vs.length)).m.a 0), .int .i64 ((castR p (sn p) (R p).vs (itoaB (R 4).vs.length)).m.a 1), .int .i64 ((castR p (sn p) (R p).vs (itoaB (R 4).vs.length)).m.a 2), .int .i64 ((castR p (sn p) (R p).vs (itoaB (R 4).vs.length)).m.a 3), .int .i64 ((castR p (sn p) (R p).vs (itoaB (R 4).vs.length)).m.a 4), .int .i64 ((castR p (sn p) (R p).vs (itoaB (R 4).vs.length)).m.a 5), .string ((castR p (sn p) (R p).vs (itoaB (R 4).vs.length)).m.t)]) (vs := [.int .i64 ((castR p (sn p) (R p).vs (itoaB (R 4).vs.length)).m.f), .int .i64 ((castR p (sn p) (R p).vs (itoaB (R 4).vs.length)).m.a 0), .int .i64 ((castR p (sn p) (R p).vs (itoaB (R 4).vs.length)).m.a 1), .int .i64 ((castR p (sn p) (R p).vs (itoaB (R 4).vs.length)).m.a 2), .int .i64 ((castR p (sn p) (R p).vs (itoaB (R 4).vs.length)).m.a 3), .int .i64 ((castR p (sn p) (R p).vs (itoaB (R 4).vs.length)).m.a 4), .int .i64 ((castR p (sn p) (R p).vs (itoaB (R 4).vs.length)).m.a 5), .string ((castR p (sn p) (R p).vs (itoaB (R 4).vs.length)).m.t)]) rfl rfl hb_g10 Tryd.sizeOf38 rfl rfl (by simp) (by simp [plainV])) (⟨fun wa wb hC_ kk => by obtain ⟨hq, ho, hc0, hb_g9, hb_g10, hob0, hne⟩ := hC_; exact ⟨hq.trans kk (by simp), ho.keep kk (by simp), hc0, hb_g9.keep kk (by simp), hb_g10.keep kk (by simp), hob0, hne⟩, fun wa hC_ => hC_.1.size⟩) (fun wa wb hC_ wr_ => by obtain ⟨hq, ho, hc0, hb_g9, hb_g10, hob0, hne⟩ := hC_; exact ⟨(hq.mono (by intro x hx _; first | exact hx | simp [hx] | simp at hx)).trans wr_.kp (by intro x hx hl; simp at hx; first | omega | simp [hx]), ho.keep wr_.kp (by intro x hx hm; have h1 := ho.base_le x hx; (try have h2 := hob0 x hx); (try have h3 := hob1 x hx); simp at hm; omega), hc0, hb_g9.keep wr_.kp (by have := hb_g9.lt; simp; omega), wr_.blk, hob0, hne⟩) rfl rfl (fun ac F => ?_)
            refine gP F rfl (fun wq => f_assign rfl) rfl rfl rfl (fun ac F => ?_)
            refine gEnd (fun w66 hq => ?_)
            obtain ⟨hq, hn_ho, hn_hc0, hn_hb_g9, hn_hb_g10, hn_hob0, hn_hne⟩ := hq
            have hsz := hq.size
            replace hg := hg.keep hq (by simp)
            replace hR := hR.nil hq
            replace hb46 := hb46.keep hq (by simp)
            replace hk0 := hk0.trans hq (by simp)
            replace h4 := h4.keep hq (by simp)
            replace kp0 := kp0.trans hq (by simp)
            have ho : Own w66 w55.heap.size 38 8 A2 c2 ((castR p (sn p) (R p).vs (itoaB (R 4).vs.length)).hold.map mlV) := hn_ho
            have hc0 : ((castR p (sn p) (R p).vs (itoaB (R 4).vs.length)).hold = [] → c2 = 0) := hn_hc0
            have hb_g9 : Blk w66 g9 32 ([.int .i64 ((castR p (sn p) (R p).vs (itoaB (R 4).vs.length)).me), .int .i64 ((castR p (sn p) (R p).vs (itoaB (R 4).vs.length)).s 0), .int .i64 ((castR p (sn p) (R p).vs (itoaB (R 4).vs.length)).s 1), .int .i64 ((castR p (sn p) (R p).vs (itoaB (R 4).vs.length)).s 2), .int .i64 ((castR p (sn p) (R p).vs (itoaB (R 4).vs.length)).s 3), .int .i64 ((castR p (sn p) (R p).vs (itoaB (R 4).vs.length)).s 4), .int .i64 ((castR p (sn p) (R p).vs (itoaB (R 4).vs.length)).s 5), .slice A2 ((castR p (sn p) (R p).vs (itoaB (R 4).vs.length)).hold.length) c2]) := hn_hb_g9
            have hb_g10 : Blk w66 g10 38 ([.int .i64 ((castR p (sn p) (R p).vs (itoaB (R 4).vs.length)).m.f), .int .i64 ((castR p (sn p) (R p).vs (itoaB (R 4).vs.length)).m.a 0), .int .i64 ((castR p (sn p) (R p).vs (itoaB (R 4).vs.length)).m.a 1), .int .i64 ((castR p (sn p) (R p).vs (itoaB (R 4).vs.length)).m.a 2), .int .i64 ((castR p (sn p) (R p).vs (itoaB (R 4).vs.length)).m.a 3), .int .i64 ((castR p (sn p) (R p).vs (itoaB (R 4).vs.length)).m.a 4), .int .i64 ((castR p (sn p) (R p).vs (itoaB (R 4).vs.length)).m.a 5), .string ((castR p (sn p) (R p).vs (itoaB (R 4).vs.length)).m.t)]) := hn_hb_g10
            have hob0 : (∀ x ∈ ob A2, x ≠ g9 ∧ x ≠ g10) := hn_hob0
            have hne : (g9 ≠ g10) := hn_hne
            refine stpEnd ?_
            refine H61 _ _ ?_
            refine c_seq (fun K67 H68 => ?_)
            refine c_seq (fun K69 H70 => ?_)
            refine c_region ?_
            refine stp F (f_move rfl) rfl rfl rfl (fun ac F => ?_)
            refine stp F (f_eql rfl rfl) rfl rfl rfl (fun ac F => ?_)
            refine stpEnd ?_
            refine H70 _ _ ?_
            by_cases hc71 : (castR p (sn p) (R p).vs (itoaB (R 4).vs.length)).e = 8
            · have hc := hc71
              replace F := F.setb (k := 55) (b' := true) rfl (decide_eq_true hc)
              clear hc
              refine c_true F rfl ?_
              refine wp_exit ?_
              refine H41 _ _ ?_
              refine c_region ?_
              refine stp F (f_add (r := ((k + 1 : Nat) : Int)) rfl rfl (by rw [IntKind.wrap_i64]; omega)) rfl rfl rfl (fun ac F => ?_)
              refine stp F (f_move rfl) rfl rfl rfl (fun ac F => ?_)
              refine stpEnd ?_
              have hg_ : Blk w66 g5 36 (grpL idn (sn) (R)) := hg
              have hR_ := hR
              refine ⟨ps.length - (k + 1), ?_, (k + 1), sn, R, F.sub ⟨rfl, rfl, rfl, rfl, trivial⟩, kp0, hg_, hR_, by omega, by rw [fold_take stepG play0 ps k hkk, hG]; exact step_full (p := p) hc59 hpn hc71, rfl⟩
              omega
            · have hc := hc71
              replace F := F.setb (k := 55) (b' := false) rfl (decide_eq_false hc)
              clear hc
              refine c_false F rfl ?_
              refine wp_skip ?_
              refine H68 _ _ ?_
              refine c_seq (fun K72 H73 => ?_)
              refine c_seq (fun K74 H75 => ?_)
              refine c_region ?_
              refine stp F (f_move rfl) rfl rfl rfl (fun ac F => ?_)
              refine stp F (f_neq rfl rfl) rfl rfl rfl (fun ac F => ?_)
              refine stp F (f_move rfl) rfl rfl rfl (fun ac F => ?_)
              have hc : (castR p (sn p) (R p).vs (itoaB (R 4).vs.length)).e = 0 := by exact ((castK_e ⟨sn, Vs R⟩ p).resolve_left (by assumption)).1
              replace F := F.setb (k := 57) (b' := false) rfl (nt (decide_eq_true hc))
              replace F := F.setb (k := 58) (b' := false) rfl (nt (decide_eq_true hc))
              refine stp F (f_fieldAddr (r := ⟨g10, 0, none⟩) (sz := 0) rfl Tryd.underlying38 rfl Tryd.sizeOf3 rfl) rfl rfl rfl (fun ac F => ?_)
              refine stp F (f_load1 (v := .int .i64 ((castR p (sn p) (R p).vs (itoaB (R 4).vs.length)).m.f)) rfl Tryd.isAgg3 ((hb_g10.cell 0).trans rfl)) rfl rfl rfl (fun ac F => ?_)
              refine stp F (f_move rfl) rfl rfl rfl (fun ac F => ?_)
              refine stp F (f_neq rfl rfl) rfl rfl rfl (fun ac F => ?_)
              refine stp F (f_pickF rfl rfl) rfl rfl rfl (fun ac F => ?_)
              refine stpEnd ?_
              refine H75 _ _ ?_
              have hc : (castR p (sn p) (R p).vs (itoaB (R 4).vs.length)).m.f = (p : Int) := by exact ((castK_e ⟨sn, Vs R⟩ p).resolve_left (by assumption)).2.2.2
              replace F := F.setb (k := 62) (b' := false) rfl (nt (decide_eq_true hc))
              replace F := F.setb (k := 63) (b' := false) rfl (nt (decide_eq_true hc))
              refine c_false F rfl ?_
              refine wp_skip ?_
              refine H73 _ _ ?_
              have hR2 := hR0.new (r := p) (vs' := (castR p (sn p) (R p).vs (itoaB (R 4).vs.length)).hold) (by omega) hk0 ho
              have lt_hg := hg.lt
              have lt_hb46 := hb46.lt
              have lt_hb_g9 := hb_g9.lt
              have lt_hb_g10 := hb_g10.lt
              refine c_drawH [0, 1, 2, 3, 4, 6, 7, 8, 13, 14, 15, 16, 17, 22, 23, 29, 30, 5, 9, 10, 18, 19, 11, 12, 20, 21, 24, 25, 26, 27, 28, 31, 32] [] (fun i => [.pure, .pure, .pure, .pure, .pure, .quiet, .pure, .pure, .pure, .quiet, .quiet, .new, .big, .pure, .pure, .pure, .pure, .pure, .quiet, .quiet, .new, .big, .pure, .pure, .pure, .own, .pure, .pure, .own, .pure, .pure, .pure, .own].getD i .pure) ((ob (R 4).A ++ ob (R (5 + p)).A) : List Nat) w66.heap.size (by intro x hx; rcases List.mem_append.1 hx with h | h <;> have := hRl _ (by omega) _ h <;> omega) (by rfl) (by decide +kernel) (fun wx => Kp (ob (R 4).A ++ ob (R (5 + p)).A) w66 wx) (fun wx => Kp (ob (R 4).A ++ ob (R (5 + p)).A) w66 wx ∧ Blk wx g5 36 (grpL idn sn R) ∧ Rows wx w0.heap.size g5 (upd R p ⟨A2, c2, (castR p (sn p) (R p).vs (itoaB (R 4).vs.length)).hold⟩)) (⟨fun wa wb hC_ kk => by obtain ⟨hq, hg, hR2⟩ := hC_; exact ⟨hq.trans kk (by simp), hg.keep kk (by simp), hR2.nil kk⟩, fun wa hC_ => hC_.1.size⟩) (⟨Kp.mono (Kp.drew _) (by simp), hg.keep (Kp.drew _) (by simp), hR2.nil (Kp.drew _)⟩) ?_
              refine gP F rfl (fun wq => f_move rfl) rfl rfl rfl (fun ac F => ?_)
              refine gP F rfl (fun wq => f_move rfl) rfl rfl rfl (fun ac F => ?_)
              refine gP F rfl (fun wq => f_move rfl) rfl rfl rfl (fun ac F => ?_)
              refine gP F rfl (fun wq => f_move rfl) rfl rfl rfl (fun ac F => ?_)
              refine gP F rfl (fun wq => f_move rfl) rfl rfl rfl (fun ac F => ?_)
              refine gP F rfl (fun wq => f_move rfl) rfl rfl rfl (fun ac F => ?_)
              refine gP F rfl (fun wq => f_nilCheck rfl) rfl rfl rfl (fun ac F => ?_)
              refine gP F rfl (fun wq => f_fieldAddr (r := ⟨g5, 32, none⟩) (sz := 0) rfl Tryd.underlying36 rfl Tryd.sizeOf28 rfl) rfl rfl rfl (fun ac F => ?_)
              refine gP F rfl (fun wq => f_move rfl) rfl rfl rfl (fun ac F => ?_)
              refine gP F rfl (fun wq => f_move rfl) rfl rfl rfl (fun ac F => ?_)
              refine gP F rfl (fun wq => f_nilCheck rfl) rfl rfl rfl (fun ac F => ?_)
              refine gP F rfl (fun wq => f_fieldAddr (r := ⟨g5, 33, none⟩) (sz := 3) rfl Tryd.underlying36 rfl Tryd.sizeOf34 rfl) rfl rfl rfl (fun ac F => ?_)
              refine gP F rfl (fun wq => f_indexA (r := ⟨g5, 33 + p * 1, none⟩) rfl rfl Tryd.underlying34 Tryd.sizeOf28 (by omega) (by omega) (add_eq (by omega))) rfl rfl rfl (fun ac F => ?_)
              refine gP F rfl (fun wq => f_nilCheck rfl) rfl rfl rfl (fun ac F => ?_)
              refine gP F rfl (fun wq => f_fieldAddr (r := ⟨g5, 0, none⟩) (sz := 31) rfl Tryd.underlying36 rfl Tryd.sizeOf33 rfl) rfl rfl rfl (fun ac F => ?_)
              refine gP F rfl (fun wq => f_nilCheck rfl) rfl rfl rfl (fun ac F => ?_)
              refine gP F rfl (fun wq => f_fieldAddr (r := ⟨g5, 33, none⟩) (sz := 3) rfl Tryd.underlying36 rfl Tryd.sizeOf34 rfl) rfl rfl rfl (fun ac F => ?_)
              refine gQ F rfl (fun wq hq => f_loadN rfl Tryd.isAgg32 Tryd.sizeOf32 (hb_g9.keep hq (fun hx => by rcases List.mem_append.1 hx with h | h <;> have := hRl _ (by omega) _ h <;> omega)).rdAll) (fun _ h => h.1) rfl rfl rfl (fun ac F => ?_)
              refine gQ F rfl (fun wq hq => f_load1 (v := .slice ((R 4).A) ((R 4).vs.length) ((R 4).c)) rfl Tryd.isAgg28 (((hg.keep hq (fun hx => by rcases List.mem_append.1 hx with h | h; exact hR0.off 4 (by omega) _ h rfl; exact hR0.off (5 + p) (by omega) _ h rfl)).cell _).trans rfl)) (fun _ h => h.1) rfl rfl rfl (fun ac F => ?_)
              refine gQ F rfl (fun wq hq => f_loadN rfl Tryd.isAgg38 Tryd.sizeOf38 (hb_g10.keep hq (fun hx => by rcases List.mem_append.1 hx with h | h <;> have := hRl _ (by omega) _ h <;> omega)).rdAll) (fun _ h => h.1) rfl rfl rfl (fun ac F => ?_)
              refine gQ F rfl (fun wq hq => f_load1 (v := .slice ((R (5 + p)).A) ((R (5 + p)).vs.length) ((R (5 + p)).c)) rfl Tryd.isAgg28 (((hg.keep hq (fun hx => by rcases List.mem_append.1 hx with h | h; exact hR0.off 4 (by omega) _ h rfl; exact hR0.off (5 + p) (by omega) _ h rfl)).cell _).trans (grp_told (p := p) (by omega) rfl))) (fun _ h => h.1) rfl rfl rfl (fun ac F => ?_)
              refine gQ F rfl (fun wq hq => f_loadN rfl Tryd.isAgg38 Tryd.sizeOf38 (hb_g10.keep hq (fun hx => by rcases List.mem_append.1 hx with h | h <;> have := hRl _ (by omega) _ h <;> omega)).rdAll) (fun _ h => h.1) rfl rfl rfl (fun ac F => ?_)
              refine gN F rfl (n_buildSlice (el := 38) (vs := [(0, mlV (castR p (sn p) (R p).vs (itoaB (R 4).vs.length)).m)]) (cs := mlC (castR p (sn p) (R p).vs (itoaB (R 4).vs.length)).m) rfl (fun w => by kernel_rfl)) rfl rfl rfl (fun g76 ac hN_g76 F => ?_)
              refine wpG_sub (D := (fun wx => Kp (ob (R 4).A ++ ob (R (5 + p)).A) w66 wx ∧ Blk wx g5 36 (grpL idn sn R) ∧ Rows wx w0.heap.size g5 (upd R p ⟨A2, c2, (castR p (sn p) (R p).vs (itoaB (R 4).vs.length)).hold⟩) ∧ Blk wx g76 38 ([.int .i64 ((castR p (sn p) (R p).vs (itoaB (R 4).vs.length)).m.f), .int .i64 ((castR p (sn p) (R p).vs (itoaB (R 4).vs.length)).m.a 0), .int .i64 ((castR p (sn p) (R p).vs (itoaB (R 4).vs.length)).m.a 1), .int .i64 ((castR p (sn p) (R p).vs (itoaB (R 4).vs.length)).m.a 2), .int .i64 ((castR p (sn p) (R p).vs (itoaB (R 4).vs.length)).m.a 3), .int .i64 ((castR p (sn p) (R p).vs (itoaB (R 4).vs.length)).m.a 4), .int .i64 ((castR p (sn p) (R p).vs (itoaB (R 4).vs.length)).m.a 5), .string ((castR p (sn p) (R p).vs (itoaB (R 4).vs.length)).m.t)]))) (Gd.and (⟨fun wa wb hC_ kk => by obtain ⟨hq, hg, hR2⟩ := hC_; exact ⟨hq.trans kk (by simp), hg.keep kk (by simp), hR2.nil kk⟩, fun wa hC_ => hC_.1.size⟩) blk_nil) (fun w_ h_ => by obtain ⟨⟨hq, hg, hR2⟩, hnew_⟩ := h_; exact ⟨hq, hg, hR2, hnew_⟩) ?_
              refine gE F rfl (ι := Option Addr × Nat) (none, 0) (fun x => .slice x.1 ((R 4).vs ++ [(castR p (sn p) (R p).vs (itoaB (R 4).vs.length)).m]).length x.2) (fun x wx => Kp (ob (R 4).A ++ ob (R (5 + p)).A) w66 wx ∧ Blk wx g5 36 (grpL idn sn R) ∧ Rows wx w0.heap.size g5 (upd (upd R p ⟨A2, c2, (castR p (sn p) (R p).vs (itoaB (R 4).vs.length)).hold⟩) 4 ⟨x.1, x.2, (R 4).vs ++ [(castR p (sn p) (R p).vs (itoaB (R 4).vs.length)).m]⟩)) (fun wq hC_ => by obtain ⟨hq, hg, hR2, hb_g76⟩ := hC_; exact FiresE.mono (f_append1k (sz := 8) (base := w0.heap.size) (z := mlV default) (v := mlV (castR p (sn p) (R p).vs (itoaB (R 4).vs.length)).m) (vs := (R 4).vs.map mlV) (bytes := 72) rfl (by simp) rfl Tryd.underlying28 (i := Tryd.t38) (by kernel_rfl) (by kernel_rfl) rfl rfl rfl (by decide) (by have h_ := hR2.own 4 (by omega); simp only [upd_off (show 4 ≠ p by omega)] at h_; exact h_) hb_g76 rfl (by simp [Value.cells, Value.oneCell']) (by omega) (by omega) (by have := hR2.lt; omega)) (fun u_ w_ ⟨A3, c3, h1, o3, kq, hbl⟩ => ⟨kq.mono (by intro x hx _; simp [hx]), (A3, c3), by rw [h1]; simp, hq.trans kq (by intro x hx hl; simp [hx]), hg.keep kq (fun hx => hR0.off 4 (by omega) _ hx rfl), hR2.app (by omega) (by simp only [upd_off (show 4 ≠ p by omega)]; exact kq) (by simpa using o3) (by simp only [upd_off (show 4 ≠ p by omega)]; exact hbl)⟩)) (fun x => ⟨fun wa wb h_ kk => by obtain ⟨hq, hg, hr_⟩ := h_; exact ⟨hq.trans kk (by simp), hg.keep kk (by simp), hr_.nil kk⟩, fun _ h => h.1.size⟩) (fun x _ h => h.1) rfl rfl rfl (fun x ac F => ?_)
              obtain ⟨A3, c3⟩ := x
              refine gN F rfl (n_buildSlice (el := 38) (vs := [(0, mlV (castR p (sn p) (R p).vs (itoaB (R 4).vs.length)).m)]) (cs := mlC (castR p (sn p) (R p).vs (itoaB (R 4).vs.length)).m) rfl (fun w => by kernel_rfl)) rfl rfl rfl (fun g85 ac hN_g85 F => ?_)
              refine wpG_sub (D := (fun wx => Kp (ob (R 4).A ++ ob (R (5 + p)).A) w66 wx ∧ Blk wx g5 36 (grpL idn sn R) ∧ Rows wx w0.heap.size g5 (upd (upd R p ⟨A2, c2, (castR p (sn p) (R p).vs (itoaB (R 4).vs.length)).hold⟩) 4 ⟨A3, c3, (R 4).vs ++ [(castR p (sn p) (R p).vs (itoaB (R 4).vs.length)).m]⟩) ∧ Blk wx g85 38 ([.int .i64 ((castR p (sn p) (R p).vs (itoaB (R 4).vs.length)).m.f), .int .i64 ((castR p (sn p) (R p).vs (itoaB (R 4).vs.length)).m.a 0), .int .i64 ((castR p (sn p) (R p).vs (itoaB (R 4).vs.length)).m.a 1), .int .i64 ((castR p (sn p) (R p).vs (itoaB (R 4).vs.length)).m.a 2), .int .i64 ((castR p (sn p) (R p).vs (itoaB (R 4).vs.length)).m.a 3), .int .i64 ((castR p (sn p) (R p).vs (itoaB (R 4).vs.length)).m.a 4), .int .i64 ((castR p (sn p) (R p).vs (itoaB (R 4).vs.length)).m.a 5), .string ((castR p (sn p) (R p).vs (itoaB (R 4).vs.length)).m.t)]))) (Gd.and (⟨fun wa wb hC_ kk => by obtain ⟨hq, hg, hR3⟩ := hC_; exact ⟨hq.trans kk (by simp), hg.keep kk (by simp), hR3.nil kk⟩, fun wa hC_ => hC_.1.size⟩) blk_nil) (fun w_ h_ => by obtain ⟨⟨hq, hg, hR3⟩, hnew_⟩ := h_; exact ⟨hq, hg, hR3, hnew_⟩) ?_
              refine gE F rfl (ι := Option Addr × Nat) (none, 0) (fun x => .slice x.1 ((R (5 + p)).vs ++ [(castR p (sn p) (R p).vs (itoaB (R 4).vs.length)).m]).length x.2) (fun x wx => Kp (ob (R 4).A ++ ob (R (5 + p)).A) w66 wx ∧ Blk wx g5 36 (grpL idn sn R) ∧ Rows wx w0.heap.size g5 (upd (upd (upd R p ⟨A2, c2, (castR p (sn p) (R p).vs (itoaB (R 4).vs.length)).hold⟩) 4 ⟨A3, c3, (R 4).vs ++ [(castR p (sn p) (R p).vs (itoaB (R 4).vs.length)).m]⟩) (5 + p) ⟨x.1, x.2, (R (5 + p)).vs ++ [(castR p (sn p) (R p).vs (itoaB (R 4).vs.length)).m]⟩)) (fun wq hC_ => by obtain ⟨hq, hg, hR3, hb_g85⟩ := hC_; exact FiresE.mono (f_append1k (sz := 8) (base := w0.heap.size) (z := mlV default) (v := mlV (castR p (sn p) (R p).vs (itoaB (R 4).vs.length)).m) (vs := (R (5 + p)).vs.map mlV) (bytes := 72) rfl (by simp) rfl Tryd.underlying28 (i := Tryd.t38) (by kernel_rfl) (by kernel_rfl) rfl rfl rfl (by decide) (by have h_ := hR3.own (5 + p) (by omega); simp only [upd_off (show 5 + p ≠ 4 by omega), upd_off (show 5 + p ≠ p by omega)] at h_; exact h_) hb_g85 rfl (by simp [Value.cells, Value.oneCell']) (by omega) (by omega) (by have := hR3.lt; omega)) (fun u_ w_ ⟨A3, c3, h1, o3, kq, hbl⟩ => ⟨kq.mono (by intro x hx _; simp [hx]), (A3, c3), by rw [h1]; simp, hq.trans kq (by intro x hx hl; simp [hx]), hg.keep kq (fun hx => hR0.off (5 + p) (by omega) _ hx rfl), hR3.app (by omega) (by simp only [upd_off (show 5 + p ≠ 4 by omega), upd_off (show 5 + p ≠ p by omega)]; exact kq) (by simpa using o3) (by simp only [upd_off (show 5 + p ≠ 4 by omega), upd_off (show 5 + p ≠ p by omega)]; exact hbl)⟩)) (fun x => ⟨fun wa wb h_ kk => by obtain ⟨hq, hg, hr_⟩ := h_; exact ⟨hq.trans kk (by simp), hg.keep kk (by simp), hr_.nil kk⟩, fun _ h => h.1.size⟩) (fun x _ h => h.1) rfl rfl rfl (fun x ac F => ?_)
              obtain ⟨A4, c4⟩ := x
              refine gP F rfl (fun wq => f_indexA (r := ⟨g5, p * 8, none⟩) rfl rfl Tryd.underlying33 Tryd.sizeOf32 (by omega) (by omega) (add_eq (by omega))) rfl rfl rfl (fun ac F => ?_)
              refine gO F rfl (fun wx => Kp (g5 :: (ob (R 4).A ++ ob (R (5 + p)).A)) w66 wx ∧ Blk wx g5 36 (grpL (upd idn p ((castR p (sn p) (R p).vs (itoaB (R 4).vs.length)).me)) (upd sn p ((castR p (sn p) (R p).vs (itoaB (R 4).vs.length)).s)) (upd R p ⟨A2, c2, (castR p (sn p) (R p).vs (itoaB (R 4).vs.length)).hold⟩)) ∧ Rows wx w0.heap.size g5 (upd (upd (upd R p ⟨A2, c2, (castR p (sn p) (R p).vs (itoaB (R 4).vs.length)).hold⟩) 4 ⟨A3, c3, (R 4).vs ++ [(castR p (sn p) (R p).vs (itoaB (R 4).vs.length)).m]⟩) (5 + p) ⟨A4, c4, (R (5 + p)).vs ++ [(castR p (sn p) (R p).vs (itoaB (R 4).vs.length)).m]⟩)) (fun wq hC_ => by obtain ⟨hq, hg, hR4⟩ := hC_; exact f_store (v := .agg #[.int .i64 ((castR p (sn p) (R p).vs (itoaB (R 4).vs.length)).me), .int .i64 ((castR p (sn p) (R p).vs (itoaB (R 4).vs.length)).s 0), .int .i64 ((castR p (sn p) (R p).vs (itoaB (R 4).vs.length)).s 1), .int .i64 ((castR p (sn p) (R p).vs (itoaB (R 4).vs.length)).s 2), .int .i64 ((castR p (sn p) (R p).vs (itoaB (R 4).vs.length)).s 3), .int .i64 ((castR p (sn p) (R p).vs (itoaB (R 4).vs.length)).s 4), .int .i64 ((castR p (sn p) (R p).vs (itoaB (R 4).vs.length)).s 5), .slice A2 ((castR p (sn p) (R p).vs (itoaB (R 4).vs.length)).hold.length) c2]) (vs := [.int .i64 ((castR p (sn p) (R p).vs (itoaB (R 4).vs.length)).me), .int .i64 ((castR p (sn p) (R p).vs (itoaB (R 4).vs.length)).s 0), .int .i64 ((castR p (sn p) (R p).vs (itoaB (R 4).vs.length)).s 1), .int .i64 ((castR p (sn p) (R p).vs (itoaB (R 4).vs.length)).s 2), .int .i64 ((castR p (sn p) (R p).vs (itoaB (R 4).vs.length)).s 3), .int .i64 ((castR p (sn p) (R p).vs (itoaB (R 4).vs.length)).s 4), .int .i64 ((castR p (sn p) (R p).vs (itoaB (R 4).vs.length)).s 5), .slice A2 ((castR p (sn p) (R p).vs (itoaB (R 4).vs.length)).hold.length) c2]) rfl rfl hg Tryd.sizeOf32 rfl rfl (by rw [grpL_len]; simp; omega) (by simp [plainV])) (⟨fun wa wb hC_ kk => by obtain ⟨hq, hg, hR4⟩ := hC_; exact ⟨hq.trans kk (by simp), hg.keep kk (by simp), hR4.nil kk⟩, fun wa hC_ => hC_.1.size⟩) (fun wa wb hC_ wr_ => by obtain ⟨hq, hg, hR4⟩ := hC_; exact ⟨(hq.mono (by intro x hx _; first | exact hx | simp [hx] | simp at hx)).trans wr_.kp (by intro x hx hl; simp at hx; first | omega | simp [hx]), ((wr_.blk).eqv (grp_putC (m' := (castR p (sn p) (R p).vs (itoaB (R 4).vs.length)).me) (s' := (castR p (sn p) (R p).vs (itoaB (R 4).vs.length)).s) (r := ⟨A2, c2, (castR p (sn p) (R p).vs (itoaB (R 4).vs.length)).hold⟩) (by omega) rfl)), hR4.atg wr_.kp⟩) rfl rfl (fun ac F => ?_)
              refine gP F rfl (fun wq => f_nilCheck rfl) rfl rfl rfl (fun ac F => ?_)
              refine gP F rfl (fun wq => f_fieldAddr (r := ⟨g5, 32, none⟩) (sz := 0) rfl Tryd.underlying36 rfl Tryd.sizeOf28 rfl) rfl rfl rfl (fun ac F => ?_)
              refine gO F rfl (fun wx => Kp (g5 :: (ob (R 4).A ++ ob (R (5 + p)).A)) w66 wx ∧ Blk wx g5 36 (grpL (upd idn p ((castR p (sn p) (R p).vs (itoaB (R 4).vs.length)).me)) (upd sn p ((castR p (sn p) (R p).vs (itoaB (R 4).vs.length)).s)) (upd (upd R p ⟨A2, c2, (castR p (sn p) (R p).vs (itoaB (R 4).vs.length)).hold⟩) 4 ⟨A3, c3, (R 4).vs ++ [(castR p (sn p) (R p).vs (itoaB (R 4).vs.length)).m]⟩)) ∧ Rows wx w0.heap.size g5 (upd (upd (upd R p ⟨A2, c2, (castR p (sn p) (R p).vs (itoaB (R 4).vs.length)).hold⟩) 4 ⟨A3, c3, (R 4).vs ++ [(castR p (sn p) (R p).vs (itoaB (R 4).vs.length)).m]⟩) (5 + p) ⟨A4, c4, (R (5 + p)).vs ++ [(castR p (sn p) (R p).vs (itoaB (R 4).vs.length)).m]⟩)) (fun wq hC_ => by obtain ⟨hq, hg, hR4⟩ := hC_; exact f_store (v := .slice A3 (((R 4).vs ++ [(castR p (sn p) (R p).vs (itoaB (R 4).vs.length)).m]).length) c3) (vs := [.slice A3 (((R 4).vs ++ [(castR p (sn p) (R p).vs (itoaB (R 4).vs.length)).m]).length) c3]) rfl rfl hg Tryd.sizeOf28 rfl rfl (by rw [grpL_len]; simp) (by simp [plainV])) (⟨fun wa wb hC_ kk => by obtain ⟨hq, hg, hR4⟩ := hC_; exact ⟨hq.trans kk (by simp), hg.keep kk (by simp), hR4.nil kk⟩, fun wa hC_ => hC_.1.size⟩) (fun wa wb hC_ wr_ => by obtain ⟨hq, hg, hR4⟩ := hC_; exact ⟨(hq.mono (by intro x hx _; first | exact hx | simp [hx] | simp at hx)).trans wr_.kp (by intro x hx hl; simp at hx; first | omega | simp [hx]), ((wr_.blk).eqv (grp_put4 (r := ⟨A3, c3, (R 4).vs ++ [(castR p (sn p) (R p).vs (itoaB (R 4).vs.length)).m]⟩))), hR4.atg wr_.kp⟩) rfl rfl (fun ac F => ?_)
              refine gP F rfl (fun wq => f_indexA (r := ⟨g5, 33 + p * 1, none⟩) rfl rfl Tryd.underlying34 Tryd.sizeOf28 (by omega) (by omega) (add_eq (by omega))) rfl rfl rfl (fun ac F => ?_)
              refine gO F rfl (fun wx => Kp (g5 :: (ob (R 4).A ++ ob (R (5 + p)).A)) w66 wx ∧ Blk wx g5 36 (grpL (upd idn p ((castR p (sn p) (R p).vs (itoaB (R 4).vs.length)).me)) (upd sn p ((castR p (sn p) (R p).vs (itoaB (R 4).vs.length)).s)) (upd (upd (upd R p ⟨A2, c2, (castR p (sn p) (R p).vs (itoaB (R 4).vs.length)).hold⟩) 4 ⟨A3, c3, (R 4).vs ++ [(castR p (sn p) (R p).vs (itoaB (R 4).vs.length)).m]⟩) (5 + p) ⟨A4, c4, (R (5 + p)).vs ++ [(castR p (sn p) (R p).vs (itoaB (R 4).vs.length)).m]⟩)) ∧ Rows wx w0.heap.size g5 (upd (upd (upd R p ⟨A2, c2, (castR p (sn p) (R p).vs (itoaB (R 4).vs.length)).hold⟩) 4 ⟨A3, c3, (R 4).vs ++ [(castR p (sn p) (R p).vs (itoaB (R 4).vs.length)).m]⟩) (5 + p) ⟨A4, c4, (R (5 + p)).vs ++ [(castR p (sn p) (R p).vs (itoaB (R 4).vs.length)).m]⟩)) (fun wq hC_ => by obtain ⟨hq, hg, hR4⟩ := hC_; exact f_store (v := .slice A4 (((R (5 + p)).vs ++ [(castR p (sn p) (R p).vs (itoaB (R 4).vs.length)).m]).length) c4) (vs := [.slice A4 (((R (5 + p)).vs ++ [(castR p (sn p) (R p).vs (itoaB (R 4).vs.length)).m]).length) c4]) rfl rfl hg Tryd.sizeOf28 rfl rfl (by rw [grpL_len]; simp; omega) (by simp [plainV])) (⟨fun wa wb hC_ kk => by obtain ⟨hq, hg, hR4⟩ := hC_; exact ⟨hq.trans kk (by simp), hg.keep kk (by simp), hR4.nil kk⟩, fun wa hC_ => hC_.1.size⟩) (fun wa wb hC_ wr_ => by obtain ⟨hq, hg, hR4⟩ := hC_; exact ⟨(hq.mono (by intro x hx _; first | exact hx | simp [hx] | simp at hx)).trans wr_.kp (by intro x hx hl; simp at hx; first | omega | simp [hx]), ((wr_.blk).eqv (grp_put5 (r := ⟨A4, c4, (R (5 + p)).vs ++ [(castR p (sn p) (R p).vs (itoaB (R 4).vs.length)).m]⟩) (by omega) rfl)), hR4.atg wr_.kp⟩) rfl rfl (fun ac F => ?_)
              refine gEnd (fun w82 hq => ?_)
              obtain ⟨hq, hn_hg, hn_hR4⟩ := hq
              have hsz := hq.size
              replace kp0 := kp0.trans hq (by intro x hx hl; simp at hx; rcases hx with rfl | hx | hx; omega; exact absurd (((hR0.own 4 (by omega)).base_le x hx).1) (by omega); exact absurd (((hR0.own (5 + p) (by omega)).base_le x hx).1) (by omega))
              replace hg : Blk w82 g5 36 (grpL (upd idn p ((castR p (sn p) (R p).vs (itoaB (R 4).vs.length)).me)) (upd sn p ((castR p (sn p) (R p).vs (itoaB (R 4).vs.length)).s)) (upd (upd (upd R p ⟨A2, c2, (castR p (sn p) (R p).vs (itoaB (R 4).vs.length)).hold⟩) 4 ⟨A3, c3, (R 4).vs ++ [(castR p (sn p) (R p).vs (itoaB (R 4).vs.length)).m]⟩) (5 + p) ⟨A4, c4, (R (5 + p)).vs ++ [(castR p (sn p) (R p).vs (itoaB (R 4).vs.length)).m]⟩)) := hn_hg
              have hR4 : Rows w82 w0.heap.size g5 (upd (upd (upd R p ⟨A2, c2, (castR p (sn p) (R p).vs (itoaB (R 4).vs.length)).hold⟩) 4 ⟨A3, c3, (R 4).vs ++ [(castR p (sn p) (R p).vs (itoaB (R 4).vs.length)).m]⟩) (5 + p) ⟨A4, c4, (R (5 + p)).vs ++ [(castR p (sn p) (R p).vs (itoaB (R 4).vs.length)).m]⟩) := hn_hR4
              refine stpEnd ?_
              refine H41 _ _ ?_
              refine c_region ?_
              refine stp F (f_add (r := ((k + 1 : Nat) : Int)) rfl rfl (by rw [IntKind.wrap_i64]; omega)) rfl rfl rfl (fun ac F => ?_)
              refine stp F (f_move rfl) rfl rfl rfl (fun ac F => ?_)
              refine stpEnd ?_
              have hg_ : Blk w82 g5 36 (grpL idn (upd sn p (castR p (sn p) (R p).vs (itoaB (R 4).vs.length)).s) (upd (upd (upd R p ⟨A2, c2, (castR p (sn p) (R p).vs (itoaB (R 4).vs.length)).hold⟩) 4 ⟨A3, c3, (R 4).vs ++ [(castR p (sn p) (R p).vs (itoaB (R 4).vs.length)).m]⟩) (5 + p) ⟨A4, c4, (R (5 + p)).vs ++ [(castR p (sn p) (R p).vs (itoaB (R 4).vs.length)).m]⟩)) := hg.eqv (by rw [upd_same (s := idn) (castK_e ⟨sn, Vs R⟩ p |>.resolve_left hc71).2.1])
              have hR_ := hR4
              refine ⟨ps.length - (k + 1), ?_, (k + 1), upd sn p (castR p (sn p) (R p).vs (itoaB (R 4).vs.length)).s, upd (upd (upd R p ⟨A2, c2, (castR p (sn p) (R p).vs (itoaB (R 4).vs.length)).hold⟩) 4 ⟨A3, c3, (R 4).vs ++ [(castR p (sn p) (R p).vs (itoaB (R 4).vs.length)).m]⟩) (5 + p) ⟨A4, c4, (R (5 + p)).vs ++ [(castR p (sn p) (R p).vs (itoaB (R 4).vs.length)).m]⟩, F.sub ⟨rfl, rfl, rfl, rfl, trivial⟩, kp0, hg_, hR_, by omega, by rw [fold_take stepG play0 ps k hkk, hG]; exact step_cast (A2 := A2) (c2 := c2) (A3 := A3) (c3 := c3) (A4 := A4) (c4 := c4) hp hc59 hpn hc71, rfl⟩
              omega
          · have hc := hc59
            replace F := F.setb (k := 36) (b' := false) rfl (decide_eq_false hc)
            clear hc
            refine c_false F rfl ?_
            refine c_seq (fun K83 H84 => ?_)
            refine c_draw 17 (by rfl) (by decide +kernel) (fun wx => Kp [] w55 wx) (Kp.drew _) ?_
            refine tP F rfl (fun wq => f_move rfl) rfl rfl rfl (fun ac F => ?_)
            refine tP F rfl (fun wq => f_nilCheck rfl) rfl rfl rfl (fun ac F => ?_)
            refine tP F rfl (fun wq => f_fieldAddr (r := ⟨g5, 32, none⟩) (sz := 0) rfl Tryd.underlying36 rfl Tryd.sizeOf28 rfl) rfl rfl rfl (fun ac F => ?_)
            refine tQ F rfl (fun wq hq => f_load1 (v := .slice ((R 4).A) ((R 4).vs.length) ((R 4).c)) rfl Tryd.isAgg28 (((hg.keep hq (by simp)).cell _).trans rfl)) rfl rfl rfl (fun ac F => ?_)
            refine tP F rfl (fun wq => f_len rfl Tryd.underlying28) rfl rfl rfl (fun ac F => ?_)
            refine tP F rfl (fun wq => f_gtr rfl rfl) rfl rfl rfl (fun ac F => ?_)
            refine tP F rfl (fun wq => f_move rfl) rfl rfl rfl (fun ac F => ?_)
            by_cases hc85 : 0 < (((R 4).vs.length : Nat) : Int)
            · have hc := hc85
              replace F := F.setb (k := 100) (b' := true) rfl (decide_eq_true hc)
              replace F := F.setb (k := 101) (b' := true) rfl (decide_eq_true hc)
              clear hc
              refine tP F rfl (fun wq => f_move rfl) rfl rfl rfl (fun ac F => ?_)
              refine tP F rfl (fun wq => f_move rfl) rfl rfl rfl (fun ac F => ?_)
              refine tP F rfl (fun wq => f_fieldAddr (r := ⟨g44, 2, none⟩) (sz := 0) rfl Tryd.underlying27 rfl Tryd.sizeOf3 rfl) rfl rfl rfl (fun ac F => ?_)
              refine tQ F rfl (fun wq hq => f_load1 (v := .int .i64 ((ps.getD k default).n)) rfl Tryd.isAgg3 (((hb46.keep hq (by simp)).cell 2).trans rfl)) rfl rfl rfl (fun ac F => ?_)
              refine tP F rfl (fun wq => f_move rfl) rfl rfl rfl (fun ac F => ?_)
              refine tP F rfl (fun wq => f_nilCheck rfl) rfl rfl rfl (fun ac F => ?_)
              refine tP F rfl (fun wq => f_fieldAddr (r := ⟨g5, 32, none⟩) (sz := 0) rfl Tryd.underlying36 rfl Tryd.sizeOf28 rfl) rfl rfl rfl (fun ac F => ?_)
              refine tQ F rfl (fun wq hq => f_load1 (v := .slice ((R 4).A) ((R 4).vs.length) ((R 4).c)) rfl Tryd.isAgg28 (((hg.keep hq (by simp)).cell _).trans rfl)) rfl rfl rfl (fun ac F => ?_)
              refine tP F rfl (fun wq => f_len rfl Tryd.underlying28) rfl rfl rfl (fun ac F => ?_)
              have hpos : 0 < (R 4).vs.length := by omega
              refine tC F rfl (fun wq => f_call (P := Tryd.prog) (f := 7) (vs := [.int .i64 ((ps.getD k default).n), .int .i64 (((R 4).vs.length : Nat) : Int)]) rfl Tryd.call7) (fun wq hq => (rest_c (ps.getD k default).n (R 4).vs.length wq hpx.2.2 (by have := hO.len; simp only [Vs] at this; omega)).mono fun e w h => by cases e <;> first | exact ⟨h.1, hq.trans h.2 (by simp)⟩ | exact h.elim) rfl rfl rfl (fun ac F => ?_)
              refine tTail (fun w86 hq => ?_)
              have hsz := hq.size
              replace hg := hg.keep hq (by simp)
              replace hR := hR.nil hq
              replace hb46 := hb46.keep hq (by simp)
              replace kp0 := kp0.trans hq (by simp)
              obtain ⟨q, hqe, hqn, hql⟩ : ∃ q : Nat, restN (ps.getD k default).n ((R 4).vs.length : Int) = q ∧ (restN (ps.getD k default).n ((R 4).vs.length : Int)).toNat = q ∧ q < (R 4).vs.length := by have := restN_rng (ps.getD k default).n (n := ((R 4).vs.length : Int)) (by omega); exact ⟨(restN (ps.getD k default).n ((R 4).vs.length : Int)).toNat, by omega, rfl, by omega⟩
              rw [hqe] at F
              refine stpC F (f_call (P := Tryd.prog) (f := 8) (vs := [.pointer (some ⟨g5, 0, none⟩), .int .i64 (p : Int), .int .i64 ((q : Int))]) rfl Tryd.call8) (ghear_c w0.heap.size g5 p q sn R _ hg hR hp hql (hO.valid p hp) (hO.cast _ (getD_in hql)).1 ⟨(hO.cast _ (getD_in hql)).2, hO.hold p hp⟩ ⟨by have := hO.told p hp; simp only [Vs] at this; omega, by have := hearR_len p (sn p) (R p).vs ((R 4).vs.getD q default); have := (hO.valid p hp).len; simp only [Vs] at this; omega⟩ (by have := hO.len; simp only [Vs] at this; omega)) rfl rfl rfl ?_
              rintro _ w87 ac ⟨R2, rfl, hg2, hR2, hvs, hkb⟩ F
              replace kp0 := hkb.kp kp0 (Nat.le_refl _)
              have hsz := kp0.size
              replace hR := hR2
              refine stp F (f_not rfl) rfl rfl rfl (fun ac F => ?_)
              refine stp F (f_pickT rfl rfl) rfl rfl rfl (fun ac F => ?_)
              refine stpEnd ?_
              refine H84 _ _ ?_
              refine c_false F rfl ?_
              refine wp_skip ?_
              refine H41 _ _ ?_
              refine c_region ?_
              refine stp F (f_add (r := ((k + 1 : Nat) : Int)) rfl rfl (by rw [IntKind.wrap_i64]; omega)) rfl rfl rfl (fun ac F => ?_)
              refine stp F (f_move rfl) rfl rfl rfl (fun ac F => ?_)
              refine stpEnd ?_
              have hg_ : Blk w87 g5 36 (grpL idn ((hearG ⟨sn, Vs R⟩ p q).sn) (R2)) := hg2
              have hR_ := hR
              refine ⟨ps.length - (k + 1), ?_, (k + 1), (hearG ⟨sn, Vs R⟩ p q).sn, R2, F.sub ⟨rfl, rfl, rfl, rfl, trivial⟩, kp0, hg_, hR_, by omega, by rw [fold_take stepG play0 ps k hkk, hG]; exact step_hear hc59 hpn (by omega) hqn hvs, rfl⟩
              omega
            · have hc := hc85
              replace F := F.setb (k := 100) (b' := false) rfl (decide_eq_false hc)
              replace F := F.setb (k := 101) (b' := false) rfl (decide_eq_false hc)
              clear hc
              refine tN F rfl rfl rfl (fun ac F => ?_)
              refine tN F rfl rfl rfl (fun ac F => ?_)
              refine tN F rfl rfl rfl (fun ac F => ?_)
              refine tN F rfl rfl rfl (fun ac F => ?_)
              refine tN F rfl rfl rfl (fun ac F => ?_)
              refine tN F rfl rfl rfl (fun ac F => ?_)
              refine tN F rfl rfl rfl (fun ac F => ?_)
              refine tN F rfl rfl rfl (fun ac F => ?_)
              refine tN F rfl rfl rfl (fun ac F => ?_)
              refine tN F rfl rfl rfl (fun ac F => ?_)
              refine tTail (fun w88 hq => ?_)
              have hsz := hq.size
              replace hg := hg.keep hq (by simp)
              replace hR := hR.nil hq
              replace hb46 := hb46.keep hq (by simp)
              replace kp0 := kp0.trans hq (by simp)
              refine stpN F rfl rfl rfl (fun ac F => ?_)
              refine stpN F rfl rfl rfl (fun ac F => ?_)
              refine stp F (f_pickF rfl rfl) rfl rfl rfl (fun ac F => ?_)
              refine stpEnd ?_
              refine H84 _ _ ?_
              refine c_false F rfl ?_
              refine wp_skip ?_
              refine H41 _ _ ?_
              refine c_region ?_
              refine stp F (f_add (r := ((k + 1 : Nat) : Int)) rfl rfl (by rw [IntKind.wrap_i64]; omega)) rfl rfl rfl (fun ac F => ?_)
              refine stp F (f_move rfl) rfl rfl rfl (fun ac F => ?_)
              refine stpEnd ?_
              have hg_ : Blk w88 g5 36 (grpL idn (sn) (R)) := hg
              have hR_ := hR
              refine ⟨ps.length - (k + 1), ?_, (k + 1), sn, R, F.sub ⟨rfl, rfl, rfl, rfl, trivial⟩, kp0, hg_, hR_, by omega, by rw [fold_take stepG play0 ps k hkk, hG]; exact step_none hc59 (by omega), rfl⟩
              omega
        · have hc := hc39
          replace F := F.setb (k := 28) (b' := false) rfl (decide_eq_false hc)
          clear hc
          refine c_false F rfl ?_
          refine wp_exit ?_
          refine H30 _ _ ?_
          refine c_seq (fun K89 H90 => ?_)
          refine c_region ?_
          refine stp F (f_move rfl) rfl rfl rfl (fun ac F => ?_)
          refine stp F (f_assign rfl) rfl rfl rfl (fun ac F => ?_)
          refine stp F (f_assign rfl) rfl rfl rfl (fun ac F => ?_)
          refine stpEnd ?_
          refine H90 _ _ ?_
          refine wp_ret ?_
          refine ret2 F rfl rfl rfl ?_
          have hkl : k = ps.length := by omega
          subst hkl
          rw [List.take_length] at hG
          exact ⟨_, rfl, kp0, R, fun r => by show _ = (ps.foldl stepG play0).V r; rw [hG], by show Blk _ _ 36 (grpL idn (ps.foldl stepG play0).sn R); rw [hG]; exact hg, hR⟩

end Go.Proofs.YtkbngaollbmcbaaDoor.KK
