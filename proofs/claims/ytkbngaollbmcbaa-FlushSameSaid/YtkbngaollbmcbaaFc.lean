/- What the proof leans on: rules for a walk through the code, walks of functions, and plain laws. No condition. -/
import Derived.Test.YtkbngaollbmcbaaFm

namespace Go.Proofs.Ytkbngaollbmcbaa.KK
open Go Go.RowKit

theorem part_at {cs ps : List Value} {o j : Nat} {u : Value} (h : (cs.drop o).take ps.length = ps) (hu : ps[j]? = some u) : cs[o + j]? = some u := by
  rw [← h, List.getElem?_take] at hu
  split at hu
  · simpa [List.getElem?_drop] using hu
  · cases hu

/-! ### Mails, and what a process of the causal broadcast has seen -/
structure Ml where
  f : Int
  a : Nat → Int
  t : ByteArray
instance : Inhabited Ml := ⟨⟨0, fun _ => 0, ⟨#[]⟩⟩⟩
abbrev mlC (m : Ml) : List Value := [.int .i64 m.f, .int .i64 (m.a 0), .int .i64 (m.a 1), .int .i64 (m.a 2), .int .i64 (m.a 3), .int .i64 (m.a 4), .int .i64 (m.a 5), .string m.t]
abbrev mlV (m : Ml) : Value := .agg #[.int .i64 m.f, .int .i64 (m.a 0), .int .i64 (m.a 1), .int .i64 (m.a 2), .int .i64 (m.a 3), .int .i64 (m.a 4), .int .i64 (m.a 5), .string m.t]
abbrev csC (me : Int) (s : Nat → Int) (A : Option Addr) (n c : Nat) : List Value := [.int .i64 me, .int .i64 (s 0), .int .i64 (s 1), .int .i64 (s 2), .int .i64 (s 3), .int .i64 (s 4), .int .i64 (s 5), .slice A n c]
theorem six {cs : List Value} {o q : Nat} {f : Nat → Value} (h0 : cs[o]? = some (f 0)) (h1 : cs[o + 1]? = some (f 1)) (h2 : cs[o + 2]? = some (f 2)) (h3 : cs[o + 3]? = some (f 3)) (h4 : cs[o + 4]? = some (f 4)) (h5 : cs[o + 5]? = some (f 5)) {j : Nat} (hj : j < 6) (hq : q = o + j) : cs[q]? = some (f j) := by
  subst hq
  match j, hj with
  | 0, _ => exact h0
  | 1, _ => exact h1
  | 2, _ => exact h2
  | 3, _ => exact h3
  | 4, _ => exact h4
  | 5, _ => exact h5
theorem csC_put {me : Int} {s : Nat → Int} {A : Option Addr} {n c j q : Nat} {x : Int} (hj : j < 6) (hq : q = 1 + j) : lay (csC me s A n c) q [.int .i64 x] = csC me (upd s j x) A n c := by
  subst hq
  match j, hj with
  | 0, _ => simp [lay, upd]
  | 1, _ => simp [lay, upd]
  | 2, _ => simp [lay, upd]
  | 3, _ => simp [lay, upd]
  | 4, _ => simp [lay, upd]
  | 5, _ => simp [lay, upd]
def Formed (m : Ml) : Prop := 0 ≤ m.f ∧ m.f ≤ 5 ∧ (∀ i, i < 6 → 0 ≤ m.a i) ∧ 0 < m.a m.f.toNat
/-- May it be delivered? -/
def Rdy1 (s : Nat → Int) (m : Ml) (i : Nat) : Prop := ((i : Int) = m.f → m.a i = s i + 1) ∧ ((i : Int) ≠ m.f → m.a i ≤ s i)
def Rdy (s : Nat → Int) (m : Ml) : Prop := ∀ i : Nat, i < 6 → Rdy1 s m i
def Same (x y : Ml) : Prop := x.f = y.f ∧ x.a x.f.toNat = y.a y.f.toNat
theorem upto_next {p : Nat → Prop} {k : Nat} (h : ∀ i, i < k → p i) (hk : p k) : ∀ i, i < k + 1 → p i := fun i hi => by
  by_cases e : i = k
  · subst e; exact hk
  · exact h i (by omega)
theorem ix_any {n : Nat} {r : Int} {Q : Nat → Prop} (h : (r = -1 ∧ ∀ i, i < n → ¬ Q i) ∨ ∃ k, k < n ∧ r = (k : Int) ∧ Q k ∧ ∀ i, i < k → ¬ Q i) : decide (0 ≤ r) = true ↔ ∃ i, i < n ∧ Q i := by
  rw [decide_eq_true_eq]
  rcases h with ⟨rfl, h⟩ | ⟨k, h1, rfl, h3, _⟩
  · exact ⟨fun h0 => absurd h0 (by decide), fun ⟨i, h1, h2⟩ => absurd h2 (h i h1)⟩
  · exact ⟨fun _ => ⟨k, h1, h3⟩, fun _ => by omega⟩
theorem neg_b {P : Program} {f : FuncId} {args : Array Value} {W : World} {x : Int} (h : Calls P f args W (Ret fun v w' => v = .bool (decide (x < 0)) ∧ Kp [] W w')) :
    Calls P f args W (Ret fun v w' => ∃ b : Bool, v = .bool b ∧ (b = true ↔ x < 0) ∧ Kp [] W w') := h.mono fun e w he => by
  cases e with
  | returned v => exact ⟨_, he.1, by simp, he.2⟩
  | panicked c => exact he.elim
  | outgrown => exact he.elim
/-- The six numbers of a block, from its second cell on, as a slice. -/
theorem nums_sl {w : World} {g T : Nat} {cs : List Value} {f : Nat → Int} (h : Blk w g T cs) (h0 : cs[1]? = some (.int .i64 (f 0))) (h1 : cs[2]? = some (.int .i64 (f 1))) (h2 : cs[3]? = some (.int .i64 (f 2))) (h3 : cs[4]? = some (.int .i64 (f 3))) (h4 : cs[5]? = some (.int .i64 (f 4))) (h5 : cs[6]? = some (.int .i64 (f 5))) :
    Sl w 0 w.heap.size 1 (some ⟨g, 1, none⟩) 6 6 (fun i => .int .i64 (f i)) :=
  ⟨Nat.le_refl _, fun _ => ⟨rfl, Nat.zero_le _, h.lt⟩, fun i hi => ⟨rfl, fun j u hu => by
    have hu' : (#[Value.int .i64 (f i)] : Array Value)[j]? = some u := hu
    obtain ⟨hj, he⟩ := Array.getElem?_eq_some_iff.1 hu'
    obtain rfl : j = 0 := by simpa using hj
    show w.cell? (((⟨g, 1, none⟩ : Addr).add (i * 1)).add 0) = _
    rw [add_mk, add_mk, h.cell, ← he]
    exact six (o := 1) (f := fun k => .int .i64 (f k)) h0 h1 h2 h3 h4 h5 hi (by omega)⟩⟩
theorem bool_t {P : Program} {f : FuncId} {args : Array Value} {W : World} {Q : Prop} (h : Calls P f args W (Ret fun v w' => ∃ b : Bool, v = .bool b ∧ (b = true ↔ Q) ∧ Kp [] W w')) (hq : Q) : Calls P f args W (Ret fun v w' => v = .bool true ∧ Kp [] W w') := h.mono fun e w he => by
  cases e with
  | returned v => obtain ⟨b, rfl, h1, h2⟩ := he; exact ⟨by rw [h1.2 hq], h2⟩
  | panicked c => exact he.elim
  | outgrown => exact he.elim
theorem bool_f {P : Program} {f : FuncId} {args : Array Value} {W : World} {Q : Prop} (h : Calls P f args W (Ret fun v w' => ∃ b : Bool, v = .bool b ∧ (b = true ↔ Q) ∧ Kp [] W w')) (hq : ¬ Q) : Calls P f args W (Ret fun v w' => v = .bool false ∧ Kp [] W w') := h.mono fun e w he => by
  cases e with
  | returned v => obtain ⟨b, rfl, h1, h2⟩ := he; exact ⟨by rw [Bool.eq_false_iff.2 (fun hb => hq (h1.1 hb))], h2⟩
  | panicked c => exact he.elim
  | outgrown => exact he.elim
theorem getD_in {α : Type} {l : List α} {d : α} {k : Nat} (h : k < l.length) : l.getD k d ∈ l := by simp [h]
/-- A process that is right. -/
structure Valid (me : Int) (s : Nat → Int) (hold : List Ml) : Prop where
  hme : 0 ≤ me ∧ me ≤ 5
  hs : ∀ i, i < 6 → 0 ≤ s i ∧ s i ≤ 16777215
  len : hold.length ≤ 40
  all : ∀ m ∈ hold, Formed m ∧ ¬ m.f = me ∧ s m.f.toNat < m.a m.f.toNat ∧ ¬ Rdy s m
  pair : hold.Pairwise fun x y => ¬ Same x y
theorem Valid.at {me : Int} {s : Nat → Int} {hold : List Ml} (h : Valid me s hold) (k : Nat) (hk : k < hold.length) : Formed (hold.getD k default) ∧ ¬ (hold.getD k default).f = me ∧ s (hold.getD k default).f.toNat < (hold.getD k default).a (hold.getD k default).f.toNat ∧ ¬ Rdy s (hold.getD k default) :=
  h.all _ (getD_in hk)
theorem Valid.rng {me : Int} {s : Nat → Int} {hold : List Ml} (h : Valid me s hold) (k : Nat) (hk : k < hold.length) : 0 ≤ (hold.getD k default).f ∧ (hold.getD k default).f ≤ 5 := ⟨(h.at k hk).1.1, (h.at k hk).1.2.1⟩
theorem Valid.two {me : Int} {s : Nat → Int} {hold : List Ml} (h : Valid me s hold) {i k : Nat} (hi : i < k) (hk : k < hold.length) : ¬ Same (hold.getD i default) (hold.getD k default) := by
  have := List.pairwise_iff_getElem.1 h.pair i k (by omega) hk hi
  simpa [hk, show i < hold.length from by omega] using this
theorem Own.of_blk0 {w : World} {base e sz g : Nat} (h : Blk w g e []) (hb : base ≤ g) : Own w base e sz (some ⟨g, 0, none⟩) 0 [] :=
  Own.shuts hb h (Nat.zero_le _) (by simp) (by simp) (by simp) (by simp)
theorem ml_rd {w : World} {lo hi c : Nat} {ad : Addr} {ms : List Ml} (h : Sl w lo hi 8 (some ad) ms.length c (fun i => mlV (ms.getD i default))) : ∀ k u, (ms.map mlV)[k]? = some u → RdAt w (ad.add (k * 8)) 8 u := by
  intro k u hu
  simp at hu
  obtain ⟨m, hm, rfl⟩ := hu
  have hk : k < ms.length := (List.getElem?_eq_some_iff.1 hm).1
  have := h.at_ k hk
  simpa [adr, hm] using this
theorem ml_one {ms : List Ml} : ∀ v ∈ ms.map mlV, ∀ u ∈ v.cells.toList, u.oneCell' = true := by
  intro v hv u hu
  obtain ⟨m, _, rfl⟩ := List.mem_map.1 hv
  simp [Value.cells] at hu
  rcases hu with rfl | rfl | rfl | rfl | rfl | rfl | rfl | rfl <;> rfl
theorem rest_b (x n : Int) (h : 0 < n) : -n < x.tmod n ∧ x.tmod n < n := by
  have h1 := Int.tmod_lt_of_pos x h
  refine ⟨?_, h1⟩
  have h2 := Int.tmod_lt_of_pos (-x) h
  rw [Int.neg_tmod] at h2
  omega
theorem rest_rng (x n : Int) (h : 0 < n) : 0 ≤ (x.tmod n + n).tmod n ∧ (x.tmod n + n).tmod n < n := by
  have h1 := rest_b x n h
  exact ⟨Int.tmod_nonneg _ (by omega), Int.tmod_lt_of_pos _ h⟩
/-- What partref.Rest answers. -/
def restN (x n : Int) : Int := if 0 < n then (x.tmod n + n).tmod n else 0
theorem restN_rng (x : Int) {n : Int} (h : 0 < n) : 0 ≤ restN x n ∧ restN x n < n := by
  rw [restN, if_pos h]; exact rest_rng x n h
end Go.Proofs.Ytkbngaollbmcbaa.KK

namespace Go.Proofs.Ytkbngaollbmcbaa.KK
open Go Go.RowKit

section
variable {P : Program} {n : Nat} {l : List (Nat × Value)} {w w' : World}
theorem f_slice2 {s el : TypeId} {x y z : Operand} {d t p e g} {A : Option Addr} {m c sz : Nat} {k k2 : IntKind} {i j : Int} (hx : evl l x = some (.slice A m c)) (hy : evl l y = some (.int k i)) (hz' : evl l z = some (.int k2 j))
    (hs : P.underlying s = some (.slice el)) (hz : SizeIs P el sz) (h0 : 0 ≤ i) (h1 : i ≤ j) (h2 : j ≤ c) :
    Fires P ⟨d, .slice s x (some y) (some z) none, t, p, e, g⟩ n l w (.slice (cutA A c i.toNat sz) (j.toNat - i.toNat) (c - i.toNat)) w := fun a F => by
  have e1 : 0 ≤ j := by omega
  have e4 : i ≤ max j 0 := by omega
  simp [execOp, F.eval hx, F.eval hy, F.eval hz', Instr.sliceAt, Instr.slice, Instr.sliceBounds, Instr.sliceBound, asIntOf, run_underlying hs, h0, h1, h2, e1, e4, hz w, cutA]
theorem cut_some {a : Addr} {c j sz : Nat} : ∃ ad, cutA (some a) c j sz = some ad := by
  unfold cutA
  split
  · exact ⟨_, rfl⟩
  · exact ⟨_, rfl⟩
theorem cut_lt {a : Addr} {c j sz : Nat} (h : j < c) : cutA (some a) c j sz = some ((adr (some a)).add (j * sz)) := by
  unfold cutA
  rw [if_neg (by omega)]
  rfl
theorem own_rd {base e sz c j : Nat} {A : Option Addr} {ad : Addr} {vs : List Value} (h : Own w base e sz A c vs) (hj : j ≤ vs.length) (had : cutA A c j sz = some ad) : ∀ i u, (vs.drop j)[i]? = some u → RdAt w (ad.add (i * sz)) sz u := by
  intro i u hu
  have h1 := (h.sl (f := fun i => (vs[i]?).getD undef) (fun i v hv => by simp [hv])).drop hj
  rw [had] at h1
  have hi : i < (vs.drop j).length := (List.getElem?_eq_some_iff.1 hu).1
  have h2 := h1.at_ i (by simpa using hi)
  rw [List.getElem?_drop, Nat.add_comm] at hu
  simpa [adr, hu] using h2
theorem f_append1k {s x : Operand} {d t p e g} {ty el sz bytes base k : Nat} {A : Option Addr} {c gx T : Nat} {vs : List Value} {v z : Value} {i : TypeInfo} (hs : evl l s = some (.slice A k c)) (hk : vs.length = k) (hx : evl l x = some (.slice (some ⟨gx, 0, none⟩) 1 1))
    (ht : P.underlying ty = some (.slice el)) (hi : P.info? el = some i) (hz : i.zero = some z) (hsize : i.size = sz) (hby : i.bytes = bytes) (hzs : z.cells.size = sz) (hsz : 0 < sz)
    (hown : Own w base el sz A c vs) (hb : Blk w gx T v.cells.toList) (hv : v.cells.size = sz) (h1 : ∀ u ∈ v.cells.toList, u.oneCell' = true)
    (hbytes : (k + 1) * bytes ≤ 140737488355328) (h63 : k + 1 ≤ 9223372036854775807) (hbase : base ≤ w.heap.size) :
    FiresE P ⟨d, .call { callee := .builtin .append, args := #[s, x], argTypes := #[ty, ty] }, t, p, e, g⟩ n l w
      (fun r w' => ∃ A' c', r = .slice A' (k + 1) c' ∧ Own w' base el sz A' c' (vs ++ [v]) ∧ Kp (ob A) w w' ∧ (ob A' = ob A ∨ ob A' = [w.heap.size])) := by
  subst hk
  have := f_append1 (n := n) (l := l) (w := w) (d := d) (t := t) (p := p) (e := e) (g := g) hs hx ht hi hz hsize hby hzs hsz hown hb hv h1 hbytes h63 hbase
  simpa using this
end
end Go.Proofs.Ytkbngaollbmcbaa.KK

namespace Go.Proofs.Ytkbngaollbmcbaa.KK
open Go Go.RowKit

/-! ### Hear, in plain Lean -/
instance (s : Nat → Int) (m : Ml) (i : Nat) : Decidable (Rdy1 s m i) := inferInstanceAs (Decidable (_ ∧ _))
instance (s : Nat → Int) (m : Ml) : Decidable (Rdy s m) := inferInstanceAs (Decidable (∀ i : Nat, i < 6 → Rdy1 s m i))
instance (x y : Ml) : Decidable (Same x y) := inferInstanceAs (Decidable (_ ∧ _))
def HasSame (hold : List Ml) (m : Ml) : Prop := ∃ x ∈ hold, Same x m
instance (hold : List Ml) (m : Ml) : Decidable (HasSame hold m) := inferInstanceAs (Decidable (∃ x ∈ hold, Same x m))
abbrev bump (s : Nat → Int) (m : Ml) : Nat → Int := upd s m.f.toNat (s m.f.toNat + 1)
def drainN : Nat → (Nat → Int) → List Ml → Ml → (Nat → Int) × List Ml × List Ml
  | 0, s, hold, m => (bump s m, hold, [m])
  | n + 1, s, hold, m => match hold.findIdx? (fun x => decide (Rdy (bump s m) x)) with
    | none => (bump s m, hold, [m])
    | some k => ((drainN n (bump s m) (hold.eraseIdx k) (hold.getD k default)).1, (drainN n (bump s m) (hold.eraseIdx k) (hold.getD k default)).2.1, m :: (drainN n (bump s m) (hold.eraseIdx k) (hold.getD k default)).2.2)
def hearN (me : Int) (s : Nat → Int) (hold : List Ml) (m : Ml) : Option ((Nat → Int) × List Ml × List Ml) :=
  if m.f = me ∨ m.a m.f.toNat ≤ s m.f.toNat ∨ HasSame hold m then some (s, hold, [])
  else if ¬ Rdy s m then (if hold.length = 40 then none else some (s, hold ++ [m], []))
  else some (drainN hold.length s hold m)

theorem bool_d {P : Program} {f : FuncId} {args : Array Value} {W : World} {Q : Prop} [Decidable Q] (h : Calls P f args W (Ret fun v w' => ∃ b : Bool, v = .bool b ∧ (b = true ↔ Q) ∧ Kp [] W w')) : Calls P f args W (Ret fun v w' => v = .bool (decide Q) ∧ Kp [] W w') := h.mono fun e w he => by
  cases e with
  | returned v => obtain ⟨b, rfl, h1, h2⟩ := he; exact ⟨by congr 1; rw [Bool.eq_iff_iff, h1, decide_eq_true_eq], h2⟩
  | panicked c => exact he.elim
  | outgrown => exact he.elim
theorem bool_iff {P : Program} {f : FuncId} {args : Array Value} {W : World} {Q Q' : Prop} (h : Calls P f args W (Ret fun v w' => ∃ b : Bool, v = .bool b ∧ (b = true ↔ Q) ∧ Kp [] W w')) (hq : Q ↔ Q') : Calls P f args W (Ret fun v w' => ∃ b : Bool, v = .bool b ∧ (b = true ↔ Q') ∧ Kp [] W w') := h.mono fun e w he => by
  cases e with
  | returned v => obtain ⟨b, rfl, h1, h2⟩ := he; exact ⟨b, rfl, h1.trans hq, h2⟩
  | panicked c => exact he.elim
  | outgrown => exact he.elim
theorem ex_getD {hold : List Ml} {Q : Ml → Prop} : (∃ i, i < hold.length ∧ Q (hold.getD i default)) ↔ ∃ x ∈ hold, Q x := by
  constructor
  · rintro ⟨i, h1, h2⟩; exact ⟨_, getD_in h1, h2⟩
  · rintro ⟨x, hx, h2⟩
    obtain ⟨i, hi, rfl⟩ := List.mem_iff_getElem.1 hx
    exact ⟨i, hi, by simpa [hi] using h2⟩
theorem ml_f {ms : List Ml} : ∀ (i : Nat) (v : Value), (ms.map mlV)[i]? = some v → mlV (ms.getD i default) = v := by
  intro i v h
  simp at h
  obtain ⟨m, hm, rfl⟩ := h
  simp [hm]
theorem Own.msl {w : World} {base c : Nat} {A : Option Addr} {ms : List Ml} (h : Own w base 38 8 A c (ms.map mlV)) : Sl w base w.heap.size 8 A ms.length c (fun i => mlV (ms.getD i default)) := by
  have := h.sl (f := fun i => mlV (ms.getD i default)) ml_f
  rwa [List.length_map] at this
theorem drain_stop {n : Nat} {s : Nat → Int} {hold : List Ml} {m : Ml} (h : ∀ i, i < hold.length → ¬ Rdy (bump s m) (hold.getD i default)) : drainN n s hold m = (bump s m, hold, [m]) := by
  have hf : hold.findIdx? (fun x => decide (Rdy (bump s m) x)) = none := by
    rw [List.findIdx?_eq_none_iff]
    intro x hx
    obtain ⟨i, hi, rfl⟩ := List.mem_iff_getElem.1 hx
    have := h i hi
    simpa [hi] using this
  cases n with
  | zero => rfl
  | succ n => rw [drainN, hf]
theorem drain_go {s : Nat → Int} {hold : List Ml} {m : Ml} {k : Nat} (hk : k < hold.length) (h1 : Rdy (bump s m) (hold.getD k default)) (h : ∀ i, i < k → ¬ Rdy (bump s m) (hold.getD i default)) :
    drainN hold.length s hold m = ((drainN (hold.eraseIdx k).length (bump s m) (hold.eraseIdx k) (hold.getD k default)).1, (drainN (hold.eraseIdx k).length (bump s m) (hold.eraseIdx k) (hold.getD k default)).2.1, m :: (drainN (hold.eraseIdx k).length (bump s m) (hold.eraseIdx k) (hold.getD k default)).2.2) := by
  have hf : hold.findIdx? (fun x => decide (Rdy (bump s m) x)) = some k := by
    rw [List.findIdx?_eq_some_iff_getElem]
    refine ⟨hk, by simpa [hk] using h1, fun j hj => ?_⟩
    have := h j hj
    simpa [show j < hold.length from by omega] using this
  obtain ⟨n, hn⟩ : ∃ n, hold.length = n + 1 := ⟨hold.length - 1, by omega⟩
  have he : (hold.eraseIdx k).length = n := by rw [List.length_eraseIdx_of_lt hk]; omega
  rw [he, hn, drainN, hf]

/-- What is so while held mails are delivered. -/
structure Drn (s : Nat → Int) (hold : List Ml) (m : Ml) : Prop where
  hm : Formed m ∧ (∀ i, i < 6 → m.a i ≤ 16777215) ∧ Rdy s m
  hs : ∀ i, i < 6 → 0 ≤ s i ∧ s i ≤ 16777215
  all : ∀ x ∈ hold, Formed x ∧ (∀ i, i < 6 → x.a i ≤ 16777215) ∧ s x.f.toNat < x.a x.f.toNat
  pair : (m :: hold).Pairwise fun x y => ¬ Same x y
theorem Drn.rng {s : Nat → Int} {hold : List Ml} {m : Ml} (h : Drn s hold m) : 0 ≤ m.f ∧ m.f ≤ 5 := ⟨h.hm.1.1, h.hm.1.2.1⟩
theorem Drn.top {s : Nat → Int} {hold : List Ml} {m : Ml} (h : Drn s hold m) : 0 ≤ s m.f.toNat ∧ s m.f.toNat + 1 = m.a m.f.toNat ∧ m.a m.f.toNat ≤ 16777215 := by
  have h1 := h.rng
  have h2 := (h.hm.2.2 m.f.toNat (by omega)).1 (by omega)
  exact ⟨(h.hs _ (by omega)).1, h2.symm, h.hm.2.1 _ (by omega)⟩
theorem Drn.bumped {s : Nat → Int} {hold : List Ml} {m : Ml} (h : Drn s hold m) : ∀ i, i < 6 → 0 ≤ bump s m i ∧ bump s m i ≤ 16777215 := by
  intro i hi
  have := h.top
  have := h.hs i hi
  unfold bump upd
  split <;> omega
theorem Drn.above {s : Nat → Int} {hold : List Ml} {m : Ml} (h : Drn s hold m) : ∀ x ∈ hold, bump s m x.f.toNat < x.a x.f.toNat := by
  intro x hx
  obtain ⟨hf, _, h3⟩ := h.all x hx
  have h1 := h.top
  have h2 := h.rng
  have hn := (List.pairwise_cons.1 h.pair).1 x hx
  unfold bump upd
  split
  · rename_i he
    have hff : m.f = x.f := by have := hf.1; omega
    have : ¬ m.a m.f.toNat = x.a x.f.toNat := fun e => hn ⟨hff, by rw [e]⟩
    rw [hff] at h1 this
    rw [hff]
    omega
  · exact h3
theorem Drn.go {s : Nat → Int} {hold : List Ml} {m : Ml} (h : Drn s hold m) {k : Nat} (hk : k < hold.length) (h1 : Rdy (bump s m) (hold.getD k default)) : Drn (bump s m) (hold.eraseIdx k) (hold.getD k default) := by
  have hin : hold.getD k default ∈ hold := getD_in hk
  refine ⟨⟨(h.all _ hin).1, (h.all _ hin).2.1, h1⟩, h.bumped, fun x hx => ?_, ?_⟩
  · have hx' := List.mem_of_mem_eraseIdx hx
    exact ⟨(h.all x hx').1, (h.all x hx').2.1, h.above x hx'⟩
  · have hp := (List.pairwise_cons.1 h.pair).2
    have hsym : ∀ x y : Ml, ¬ Same x y → ¬ Same y x := fun x y hn hs => hn ⟨hs.1.symm, hs.2.symm⟩
    refine List.pairwise_cons.2 ⟨fun x hx => ?_, hp.sublist (List.eraseIdx_sublist _ _)⟩
    obtain ⟨i, hi, hne, rfl⟩ := List.mem_eraseIdx_iff_getElem.1 hx
    have hg : hold.getD k default = hold[k] := by simp [hk]
    rw [hg]
    rcases Nat.lt_or_gt_of_ne hne with h' | h'
    · exact hsym _ _ (List.pairwise_iff_getElem.1 hp i k hi hk h')
    · exact List.pairwise_iff_getElem.1 hp k i hk hi h'
end Go.Proofs.Ytkbngaollbmcbaa.KK
