/- What the proof leans on: rules for a walk through the code, walks of functions, and plain laws. No condition. -/
import Derived.Test.YtkbngaollbmcbaaFk
import Derived.Deep.OwnRows
import Derived.Laws.OwnMore

namespace Go.Proofs.Ytkbngaollbmcbaa.KK
open Go Go.RowKit
def upd {α : Type} (s : Nat → α) (i : Nat) (v : α) : Nat → α := fun j => if j = i then v else s j
def ckc (s : Nat → Int) (t : Nat → Bool) : List Value := (List.range 30).map (fun i => .int .i64 (s i)) ++ (List.range 180).map (fun i => .bool (t i))
theorem ckc_s {s : Nat → Int} {t : Nat → Bool} {i : Nat} (h : i < 30) : (ckc s t)[i * 1]? = some (.int .i64 (s i)) := by
  unfold ckc
  rw [Nat.mul_one, List.getElem?_append_left (by simpa using h)]
  simp [h]
theorem ckc_t {s : Nat → Int} {t : Nat → Bool} {i j : Nat} (h : i < 30) (hj : j < 6) : (ckc s t)[30 + i * 6 + j * 1]? = some (.bool (t (i * 6 + j))) := by
  unfold ckc
  rw [List.getElem?_append_right (by simp; omega)]
  have : 30 + i * 6 + j * 1 - ((List.range 30).map (fun i => Value.int .i64 (s i))).length = i * 6 + j := by simp; omega
  rw [this]
  have h2 : i * 6 + j < 180 := by omega
  simp [h2]
theorem ckc_len (s : Nat → Int) (t : Nat → Bool) : (ckc s t).length = 210 := by simp [ckc]
theorem ckc_lt_s {s : Nat → Int} {t : Nat → Bool} {i : Nat} {v : Value} (h : i < 30) : i * 1 + [v].length ≤ (ckc s t).length := by rw [ckc_len]; simp; omega
theorem ckc_lt_t {s : Nat → Int} {t : Nat → Bool} {i j : Nat} {v : Value} (h : i < 30) (hj : j < 6) : 30 + i * 6 + j * 1 + [v].length ≤ (ckc s t).length := by rw [ckc_len]; simp; omega
theorem ckc_put_s {s : Nat → Int} {t : Nat → Bool} {i : Nat} {x : Int} (h : i < 30) : lay (ckc s t) (i * 1) [.int .i64 x] = ckc (upd s i x) t := by
  simp only [lay, Nat.mul_one]
  apply List.ext_getElem?
  intro k
  rw [List.getElem?_set, ckc_len]
  unfold ckc
  by_cases hk : k < 30
  · rw [List.getElem?_append_left (by simpa using hk), List.getElem?_append_left (by simpa using hk)]
    by_cases e : i = k
    · subst e; simp [upd, h]; omega
    · have e' : ¬ k = i := fun x => e x.symm
      simp [upd, e, e', hk]
  · rw [List.getElem?_append_right (by simp; omega), List.getElem?_append_right (by simp; omega)]
    have e : ¬ i = k := by omega
    simp [e]
theorem ckc_put_t {s : Nat → Int} {t : Nat → Bool} {i j : Nat} {x : Bool} (h : i < 30) (hj : j < 6) : lay (ckc s t) (30 + i * 6 + j * 1) [.bool x] = ckc s (upd t (i * 6 + j) x) := by
  simp only [lay, Nat.mul_one]
  apply List.ext_getElem?
  intro k
  rw [List.getElem?_set, ckc_len]
  unfold ckc
  by_cases hk : k < 30
  · have e : ¬ 30 + i * 6 + j = k := by omega
    rw [List.getElem?_append_left (by simpa using hk), List.getElem?_append_left (by simpa using hk)]
    simp [e]
  · rw [List.getElem?_append_right (by simp; omega), List.getElem?_append_right (by simp; omega)]
    by_cases e : 30 + i * 6 + j = k
    · subst e
      have h1 : 30 + i * 6 + j - 30 = i * 6 + j := by omega
      have h2 : i * 6 + j < 180 := by omega
      have h3 : 30 + i * 6 + j < 210 := by omega
      simp [upd, h1, h2, h3]
    · by_cases hk2 : k - 30 < 180
      · have e' : ¬ k - 30 = i * 6 + j := by omega
        simp [upd, e, e', hk2]
      · simp [e, hk2]
def evStep (s : Nat → Int) (t : Nat → Bool) (p k m : Int) : Int × ((Nat → Int) × (Nat → Bool)) :=
  if ¬ (0 ≤ p ∧ p ≤ 5) then (1, s, t) else if ¬ (0 ≤ m ∧ m ≤ 29) then (1, s, t) else
  if k = 1 then (if m = 0 then (0, s, t) else (4, s, t)) else
  if k = 2 then (if 0 < s m.toNat then (4, s, t) else (0, upd s m.toNat (p + 1), t)) else
  if k = 3 then (if s m.toNat = 0 then (4, s, t) else if s m.toNat = p + 1 then (4, s, t) else if t (m.toNat * 6 + p.toNat) = true then (4, s, t) else (0, s, upd t (m.toNat * 6 + p.toNat) true)) else (4, s, t)
/-- An event. -/
structure Ev where
  proc : Int
  kind : Int
  msg : Int
  deriving Inhabited
abbrev Ev.enc (e : Ev) : Value := .agg #[.int .i64 e.proc, .int .i64 e.kind, .int .i64 e.msg]
abbrev evv (h : List Ev) : Nat → Value := fun i => (h.getD i default).enc

def ckGo : List Ev → (Nat → Int) → (Nat → Bool) → Int
  | [], _, _ => 0
  | e :: r, s, t => if (evStep s t e.proc e.kind e.msg).1 = 0 then ckGo r (evStep s t e.proc e.kind e.msg).2.1 (evStep s t e.proc e.kind e.msg).2.2 else (evStep s t e.proc e.kind e.msg).1
def z0 : Nat → Int := fun _ => 0
def zb : Nat → Bool := fun _ => false
def checkF (h : List Ev) : Int := if 60 < h.length then 2 else ckGo h z0 zb
theorem drop_get {α : Type} [Inhabited α] (h : List α) (k : Nat) (hk : k < h.length) : h.drop k = h.getD k default :: h.drop (k + 1) := by
  rw [List.drop_eq_getElem_cons hk]
  simp [hk]
theorem ckGo_step {h : List Ev} {k : Nat} (hk : k < h.length) (s : Nat → Int) (t : Nat → Bool) :
    ckGo (h.drop k) s t = if (evStep s t (h.getD k default).proc (h.getD k default).kind (h.getD k default).msg).1 = 0 then
      ckGo (h.drop (k + 1)) (evStep s t (h.getD k default).proc (h.getD k default).kind (h.getD k default).msg).2.1 (evStep s t (h.getD k default).proc (h.getD k default).kind (h.getD k default).msg).2.2
      else (evStep s t (h.getD k default).proc (h.getD k default).kind (h.getD k default).msg).1 := by
  rw [drop_get h k hk]; rfl
theorem ckGo_next {h : List Ev} {k : Nat} {s : Nat → Int} {t : Nat → Bool} {r : Int} (hk : k < h.length) (hg : ckGo (h.drop k) s t = r)
    (h0 : (evStep s t (h.getD k default).proc (h.getD k default).kind (h.getD k default).msg).1 = 0) :
    ckGo (h.drop (k + 1)) (evStep s t (h.getD k default).proc (h.getD k default).kind (h.getD k default).msg).2.1 (evStep s t (h.getD k default).proc (h.getD k default).kind (h.getD k default).msg).2.2 = r := by
  rw [ckGo_step hk, if_pos h0] at hg; exact hg
theorem ckGo_stop {h : List Ev} {k : Nat} {s : Nat → Int} {t : Nat → Bool} {r : Int} (hk : k < h.length) (hg : ckGo (h.drop k) s t = r)
    (h0 : ¬ (evStep s t (h.getD k default).proc (h.getD k default).kind (h.getD k default).msg).1 = 0) :
    (evStep s t (h.getD k default).proc (h.getD k default).kind (h.getD k default).msg).1 = r := by
  rw [ckGo_step hk, if_neg h0] at hg; exact hg
theorem ckGo_end {h : List Ev} {k : Nat} {s : Nat → Int} {t : Nat → Bool} {r : Int} (hk : ¬ k < h.length) (hg : ckGo (h.drop k) s t = r) : 0 = r := by
  rw [List.drop_eq_nil_of_le (by omega)] at hg; exact hg
/-! arrays of ints -/
def arrI (n : Nat) (f : Nat → Int) : List Value := (List.range n).map fun i => .int .i64 (f i)
theorem arrI_len (n : Nat) (f : Nat → Int) : (arrI n f).length = n := by simp [arrI]
theorem arrI_get {n : Nat} {f : Nat → Int} {i : Nat} (h : i < n) : (arrI n f)[i * 1]? = some (.int .i64 (f i)) := by simp [arrI, h]
theorem arrI_lt {n : Nat} {f : Nat → Int} {i : Nat} {v : Value} (h : i < n) : i * 1 + [v].length ≤ (arrI n f).length := by rw [arrI_len]; simp; omega
theorem arrI_put {n : Nat} {f : Nat → Int} {i : Nat} {x : Int} (h : i < n) : lay (arrI n f) (i * 1) [.int .i64 x] = arrI n (upd f i x) := by
  simp only [lay, Nat.mul_one]
  apply List.ext_getElem?
  intro k
  rw [List.getElem?_set, arrI_len]
  unfold arrI
  by_cases e : i = k
  · subst e; simp [upd, h]
  · have e' : ¬ k = i := fun x => e x.symm
    by_cases hk : k < n <;> simp [upd, e, e', hk]

abbrev vi : Int → Value := Value.int .i64
def stNew (e : Ev) (la se : Nat → Int) : Int := (if e.kind = 3 then max (la e.proc.toNat) (se e.msg.toNat) else la e.proc.toNat) + 1
def stGo : List Ev → (Nat → Int) → (Nat → Int) → List Int
  | [], _, _ => []
  | e :: r, la, se => stNew e la se :: stGo r (upd la e.proc.toNat (stNew e la se)) (if e.kind = 2 then upd se e.msg.toNat (stNew e la se) else se)
def stF (h : List Ev) : List Int := if checkF h = 0 then stGo h z0 z0 else []

theorem ckGo_ok : ∀ (h : List Ev) (s : Nat → Int) (t : Nat → Bool), ckGo h s t = 0 → ∀ e ∈ h, 0 ≤ e.proc ∧ e.proc ≤ 5 ∧ 0 ≤ e.msg ∧ e.msg ≤ 29
  | [], _, _, _, _, he => by simp at he
  | e :: r, s, t, hc, x, hx => by
    simp only [ckGo] at hc
    split at hc
    · rename_i h0
      rcases List.mem_cons.1 hx with rfl | hx
      · unfold evStep at h0
        split at h0
        · simp at h0
        · split at h0
          · simp at h0
          · omega
      · exact ckGo_ok r _ _ hc x hx
    · rename_i h0; exact absurd hc h0
theorem checkF_ok {h : List Ev} (hc : checkF h = 0) : h.length ≤ 60 ∧ ∀ k, k < h.length → 0 ≤ (h.getD k default).proc ∧ (h.getD k default).proc ≤ 5 ∧ 0 ≤ (h.getD k default).msg ∧ (h.getD k default).msg ≤ 29 := by
  unfold checkF at hc
  split at hc
  · simp at hc
  · refine ⟨by omega, fun k hk => ckGo_ok h _ _ hc _ ?_⟩
    simp [hk]
theorem upd_bd {la : Nat → Int} {k : Nat} {x : Int} {i : Nat} (h : ∀ i, 0 ≤ la i ∧ la i ≤ k) (hx : 0 ≤ x ∧ x ≤ (k : Int) + 1) : ∀ j, 0 ≤ upd la i x j ∧ upd la i x j ≤ ((k + 1 : Nat) : Int) := by
  intro j
  unfold upd
  split
  · omega
  · have := h j; omega
theorem bd_next {la : Nat → Int} {k : Nat} (h : ∀ i, 0 ≤ la i ∧ la i ≤ k) : ∀ j, 0 ≤ la j ∧ la j ≤ ((k + 1 : Nat) : Int) := fun j => by have := h j; omega
theorem stGo_next {h : List Ev} {k : Nat} {os r : List Int} {la se : Nat → Int} (hk : k < h.length) (hg : os ++ stGo (h.drop k) la se = r) {x : Int} {se' : Nat → Int}
    (hx : stNew (h.getD k default) la se = x) (hs : (if (h.getD k default).kind = 2 then upd se (h.getD k default).msg.toNat x else se) = se') :
    (os ++ [x]) ++ stGo (h.drop (k + 1)) (upd la (h.getD k default).proc.toNat x) se' = r := by
  subst hx; subst hs
  rw [drop_get h k hk] at hg
  rw [← hg]
  simp only [stGo, List.append_assoc, List.singleton_append]
theorem stGo_end {h : List Ev} {k : Nat} {os r : List Int} {la se : Nat → Int} (hk : ¬ k < h.length) (hg : os ++ stGo (h.drop k) la se = r) : os = r := by
  rw [List.drop_eq_nil_of_le (by omega)] at hg; simpa [stGo] using hg
end Go.Proofs.Ytkbngaollbmcbaa.KK

namespace Go.Proofs.Ytkbngaollbmcbaa.KK
open Go Go.RowKit

section
variable {P : Program} {n : Nat} {l : List (Nat × Value)} {w w' : World}

theorem f_makeSlice {ty el : TypeId} {x y : Operand} {d t p e g} {k k2 : IntKind} {m : Nat} {i : TypeInfo} {z : Value} (hx : evl l x = some (.int k (m : Int))) (hy : evl l y = some (.int k2 (m : Int))) (ht : P.underlying ty = some (.slice el)) (hi : P.info? el = some i)
    (hz : i.zero = some z) (hs : i.size = 1) (hz1 : z.cells = #[z]) (hb : i.bytes * m ≤ 281474976710656) (h63 : m ≤ 9223372036854775807) :
    FiresE P ⟨d, .makeSlice ty x y, t, p, e, g⟩ n l w (fun v w' => ∃ g, v = .slice (some ⟨g, 0, none⟩) m m ∧ New w el (List.replicate m z) g w') := fun a F => by
  refine ⟨_, _, ?_, w.heap.size, rfl, New.mk_ _ _ _⟩
  have hr := run_make_row (P := P) ty el i z ht hi hz hs hz1 k k2 m hb h63 w
  simp [execOp, F.eval hx, F.eval hy, hr]
  congr 2
  apply Array.toList_inj.1
  rw [toList_madeCells_one]; simp
end

/-! ### Rows of bools, and a table of them -/
def boolsL (n : Nat) (f : Nat → Bool) : List Value := (List.range n).map fun i => .bool (f i)
theorem boolsL_len (n : Nat) (f : Nat → Bool) : (boolsL n f).length = n := by simp [boolsL]
theorem boolsL_get {n : Nat} {f : Nat → Bool} {i : Nat} (h : i < n) : (boolsL n f)[i * 1]? = some (.bool (f i)) := by simp [boolsL, h]
theorem boolsL_put {n : Nat} {f : Nat → Bool} {i : Nat} {x : Bool} (h : i < n) : lay (boolsL n f) (i * 1) [.bool x] = boolsL n (upd f i x) := by
  simp only [lay, Nat.mul_one]
  apply List.ext_getElem?
  intro k
  rw [List.getElem?_set, boolsL_len]
  unfold boolsL
  by_cases e : i = k
  · subst e; simp [upd, h]
  · have e' : ¬ k = i := fun x => e x.symm
    by_cases hk : k < n <;> simp [upd, e, e', hk]
theorem boolsL_false (n : Nat) : List.replicate n (Value.bool false) = boolsL n (fun _ => false) := by
  apply List.ext_getElem?
  intro k
  unfold boolsL
  by_cases hk : k < n <;> simp [hk]

def tabL (n : Nat) (gr : Nat → Nat) (k : Nat) : List Value := (List.range n).map fun i => if i < k then .slice (some ⟨gr i, 0, none⟩) n n else .slice none 0 0
theorem tabL_len (n k : Nat) (gr : Nat → Nat) : (tabL n gr k).length = n := by simp [tabL]
theorem tabL_get {n k : Nat} {gr : Nat → Nat} {i : Nat} (h : i < n) (hk : i < k) : (tabL n gr k)[i * 1]? = some (.slice (some ⟨gr i, 0, none⟩) n n) := by simp [tabL, h, hk]
theorem tabL_nil (n : Nat) (gr : Nat → Nat) : List.replicate n (Value.slice none 0 0) = tabL n gr 0 := by
  apply List.ext_getElem?
  intro k
  unfold tabL
  by_cases hk : k < n <;> simp [hk]
theorem tabL_put {n k : Nat} {gr : Nat → Nat} {g : Nat} (h : k < n) : lay (tabL n gr k) (k * 1) [.slice (some ⟨g, 0, none⟩) n n] = tabL n (upd gr k g) (k + 1) := by
  simp only [lay, Nat.mul_one]
  apply List.ext_getElem?
  intro j
  rw [List.getElem?_set, tabL_len]
  unfold tabL
  by_cases e : k = j
  · subst e; simp [upd, h]
  · have e' : ¬ j = k := fun x => e x.symm
    by_cases hj : j < n
    · by_cases hjk : j < k
      · simp [upd, e, e', hj, hjk, show j < k + 1 from by omega]
      · simp [upd, e, e', hj, hjk, show ¬ j < k + 1 from by omega]
    · simp [e, hj]

/-- A table of n rows of n bools, of which k are made. -/
structure Mat (T U : TypeId) (w : World) (lo hi gm n : Nat) (gr : Nat → Nat) (k : Nat) (M : Nat → Nat → Bool) : Prop where
  tab : Blk w gm T (tabL n gr k)
  row : ∀ i, i < k → Blk w (gr i) U (boolsL n (M i))
  inj : ∀ i j, i < k → j < k → gr i = gr j → i = j
  ne : ∀ i, i < k → gr i ≠ gm
  bd : lo ≤ gm ∧ gm < hi
  bdr : ∀ i, i < k → lo ≤ gr i ∧ gr i < hi

section
variable {T U : TypeId} {w w' : World} {lo hi gm n k : Nat} {gr : Nat → Nat} {M : Nat → Nat → Bool} {B : List Nat}
theorem Mat.keep (h : Mat T U w lo hi gm n gr k M) (kp : Kp B w w') (hm : ∀ g ∈ B, g < lo ∨ hi ≤ g) : Mat T U w' lo hi gm n gr k M :=
  ⟨h.tab.keep kp (fun hx => by have := h.bd; rcases hm _ hx with e | e <;> omega), fun i hi' => (h.row i hi').keep kp (fun hx => by have := h.bdr i hi'; rcases hm _ hx with e | e <;> omega), h.inj, h.ne, h.bd, h.bdr⟩
theorem Mat.more {lo' hi' : Nat} (h : Mat T U w lo hi gm n gr k M) (h1 : lo' ≤ lo) (h2 : hi ≤ hi') : Mat T U w lo' hi' gm n gr k M :=
  ⟨h.tab, h.row, h.inj, h.ne, by have := h.bd; omega, fun i hi => by have := h.bdr i hi; omega⟩
theorem Mat.start (h : Blk w gm T (List.replicate n (.slice none 0 0))) (h1 : lo ≤ gm) (gr : Nat → Nat) (M : Nat → Nat → Bool) : Mat T U w lo w.heap.size gm n gr 0 M :=
  ⟨(tabL_nil n gr) ▸ h, fun i hi => by omega, fun i j hi => by omega, fun i hi => by omega, ⟨h1, h.lt⟩, fun i hi => by omega⟩
/-- A row more. -/
theorem Mat.grow {g : Nat} (h : Mat T U w lo hi gm n gr k M) (hr : Blk w' g U (List.replicate n (.bool false))) (hg : hi ≤ g) (hlo : lo ≤ hi) (kp : Kp [gm] w w') (hb : Blk w' gm T (lay (tabL n gr k) (k * 1) [.slice (some ⟨g, 0, none⟩) n n])) (hk : k < n) :
    ∃ gr' M', Mat T U w' lo w'.heap.size gm n gr' (k + 1) M' ∧ gr' k = g ∧ (∀ i, i < k → M' i = M i) ∧ M' k = fun _ => false := by
  have hbd := h.bd
  have hs := kp.size
  have hlt := hr.lt
  refine ⟨upd gr k g, upd M k (fun _ => false), ⟨(tabL_put hk) ▸ hb, fun i hi' => ?_, fun i j hi' hj' he => ?_, fun i hi' => ?_, by omega, fun i hi' => ?_⟩, by simp [upd], fun i hi' => ?_, by simp [upd]⟩
  · by_cases e : i = k
    · subst e; simp only [upd, if_true]; rw [boolsL_false] at hr; exact hr
    · simp only [upd, if_neg e]; exact (h.row i (by omega)).keep kp (by simpa using h.ne i (by omega))
  · have b1 : ∀ i, i < k → gr i < g := fun i hi' => by have := h.bdr i hi'; omega
    unfold upd at he
    by_cases e1 : i = k <;> by_cases e2 : j = k <;> simp only [e1, e2, if_true, if_false] at he ⊢
    · have := b1 j (by omega); omega
    · have := b1 i (by omega); omega
    · exact h.inj i j (by omega) (by omega) he
  · unfold upd
    by_cases e : i = k
    · rw [if_pos e]; omega
    · rw [if_neg e]; exact h.ne i (by omega)
  · unfold upd
    by_cases e : i = k
    · rw [if_pos e]; omega
    · rw [if_neg e]; have := h.bdr i (by omega); omega
  · unfold upd; rw [if_neg (by omega)]
theorem Mat.put {i j : Nat} {x : Bool} (h : Mat T U w lo hi gm n gr k M) (hik : i < k) (hj : j < n) (kp : Kp [gr i] w w') (hb : Blk w' (gr i) U (lay (boolsL n (M i)) (j * 1) [.bool x])) : Mat T U w' lo hi gm n gr k (upd M i (upd (M i) j x)) := by
  refine ⟨h.tab.keep kp (by have := h.ne i hik; simp; exact fun e => this e.symm), fun q hq => ?_, h.inj, h.ne, h.bd, h.bdr⟩
  by_cases e : q = i
  · subst e; simp only [upd, if_true]; rw [boolsL_put hj] at hb; exact hb
  · simp only [upd, if_neg e]; exact (h.row q hq).keep kp (by simp; exact fun h2 => e (h.inj q i hq hik h2))
end
end Go.Proofs.Ytkbngaollbmcbaa.KK

namespace Go.Proofs.Ytkbngaollbmcbaa.KK
open Go Go.RowKit

/-! ### Regions that draw their order and make memory: one walk in an order of my own choosing -/
inductive Kg where
  | pure | quiet | new | big | own
  deriving DecidableEq

/-- i comes first in my order; j, that doesn't wait for it, may come ahead of it in truth. -/
def Kg.fine : Kg → Kg → Bool
  | .pure, _ => true
  | _, .pure => true
  | .quiet, .own => false
  | .quiet, _ => true
  | .own, _ => false
  | _, .new => true
  | _, _ => false

def nth : List Oper → Nat → Oper
  | [], _ => default
  | o :: _, 0 => o
  | _ :: l, n + 1 => nth l n
theorem nth_get : ∀ {l : List Oper} {i : Nat} {o : Oper}, l[i]? = some o → nth l i = o
  | [], _, _, h => by simp at h
  | _ :: _, 0, _, h => by simpa [nth] using h
  | _ :: l, i + 1, _, h => by simp only [List.getElem?_cons_succ] at h; exact nth_get (l := l) h

def Stb (M : List Nat) (S : World → Prop) : Prop := ∀ w w', S w → Kp M w w' → S w'
def Gd (N : Nat) (C : World → Prop) : Prop := (∀ w w', C w → Kp [] w w' → C w') ∧ ∀ w, C w → N ≤ w.heap.size
theorem Stb.nil {M : List Nat} {S : World → Prop} (h : Stb M S) : ∀ w w', S w → Kp [] w w' → S w' := fun w w' hs hk => h w w' hs (hk.mono (by simp))
theorem Gd.and {N : Nat} {C S : World → Prop} (h : Gd N C) (hs : ∀ w w', S w → Kp [] w w' → S w') : Gd N (fun w => C w ∧ S w) :=
  ⟨fun w w' hc hk => ⟨h.1 w w' hc.1 hk, hs w w' hc.2 hk⟩, fun w hc => h.2 w hc.1⟩

theorem blk_nil {g : Nat} {T : TypeId} {cs : List Value} : ∀ w w', Blk w g T cs → Kp [] w w' → Blk w' g T cs := fun w w' h k => h.keep k (by simp)

section
variable {P : Program} {ops : Array Oper} {Q : Exit → Act → World → Prop} {md : Region.Mode} {B : World → Prop} {M : List Nat} {N : Nat}

def bigAt (P : Program) (o : Oper) (a : Act) (w : World) (post : Value → World → Prop) : Prop :=
  match (execOp a.eval o).run P w with
  | .ok (.value v) w' => post v w'
  | .ok .skip w' => post undef w'
  | .ok (.enter f args) w' => Calls P f args w' (Ret post)
  | _ => False
theorem bigAt.mono {o : Oper} {a : Act} {w : World} {post post' : Value → World → Prop} (h : bigAt P o a w post) (hp : ∀ v w', post v w' → post' v w') : bigAt P o a w post' := by
  unfold bigAt at *
  generalize (execOp a.eval o).run P w = r at *
  cases r with
  | ok n w' =>
    cases n <;> simp only at h ⊢
    · exact hp _ _ h
    · exact hp _ _ h
    · exact h.mono fun e w'' he => by cases e <;> first | exact hp _ _ he | exact he.elim
  | _ => exact h

/-- What operation o does to a class of worlds. -/
def gOp1 (P : Program) (ops : Array Oper) (B : World → Prop) (M : List Nat) (N : Nat) (k : Kg) (o : Oper) (K : (World → Prop) → Act → Prop) (C : World → Prop) (a : Act) : Prop :=
  if Region.wanted o (yielded ops a.tmps) then
    match k with
    | .pure => ∃ v, (∀ w, (execOp a.eval o).run P w = .ok (.value v) w) ∧ K C (a.put o.dst v)
    | .quiet => ∃ v, (∀ w, B w → o.quietAt P a (fun w' => Kp [] w w') w v) ∧ (∀ w, C w → B w) ∧ K C (a.put o.dst v)
    | .new => ∃ (mk : Nat → Value) (T : TypeId) (cs : List Value), (∀ w, (execOp a.eval o).run P w = .ok (.value (mk w.heap.size)) (w.alloc (.cells cs.toArray T))) ∧ ∀ g, N ≤ g → K (fun w => C w ∧ Blk w g T cs) (a.put o.dst (mk g))
    | .big => ∃ (ι : Type) (_ : ι) (val : ι → Value) (T : ι → World → Prop), (∀ x, Gd N (T x)) ∧ (∀ x w, T x w → B w) ∧ (∀ w, C w → bigAt P o a w (fun v w' => Kp M w w' ∧ ∃ x, v = val x ∧ T x w')) ∧ ∀ x, K (T x) (a.put o.dst (val x))
    | .own => ∃ (ι : Type) (_ : ι) (val : ι → Value) (T : ι → World → Prop), (∀ x, Gd N (T x)) ∧ (∀ w, C w → bigAt P o a w (fun v w' => ∃ x, v = val x ∧ T x w')) ∧ ∀ x, K (T x) (a.put o.dst (val x))
  else K C (a.put o.dst undef)

theorem gOp1_mono {k : Kg} {o : Oper} {K K' : (World → Prop) → Act → Prop} (h : ∀ C a, Gd N C → K C a → K' C a) {C : World → Prop} {a : Act} (hC : Gd N C) (hh : gOp1 P ops B M N k o K C a) : gOp1 P ops B M N k o K' C a := by
  unfold gOp1 at *
  split
  · rename_i hw
    rw [if_pos hw] at hh
    cases k <;> simp only at hh ⊢
    · obtain ⟨v, h1, h2⟩ := hh; exact ⟨v, h1, h _ _ hC h2⟩
    · obtain ⟨v, h1, h3, h2⟩ := hh; exact ⟨v, h1, h3, h _ _ hC h2⟩
    · obtain ⟨mk, T, cs, h1, h2⟩ := hh; exact ⟨mk, T, cs, h1, fun g hg => h _ _ (hC.and blk_nil) (h2 g hg)⟩
    · obtain ⟨ι, x0, val, T, h0, h3, h1, h2⟩ := hh; exact ⟨ι, x0, val, T, h0, h3, h1, fun v => h _ _ (h0 v) (h2 v)⟩
    · obtain ⟨ι, x0, val, T, h0, h1, h2⟩ := hh; exact ⟨ι, x0, val, T, h0, h1, fun v => h _ _ (h0 v) (h2 v)⟩
  · rename_i hw
    rw [if_neg hw] at hh
    exact h _ _ hC hh

/-- Less is asked of a narrower class. -/
def Anti (N : Nat) (K : (World → Prop) → Act → Prop) : Prop := ∀ C C' a, Gd N C' → (∀ w, C' w → C w) → K C a → K C' a
theorem gOp1_anti {k : Kg} {o : Oper} {K : (World → Prop) → Act → Prop} (h : Anti N K) : Anti N (gOp1 P ops B M N k o K) := by
  intro C C' a hC' hs hh
  unfold gOp1 at *
  split
  · rename_i hw
    rw [if_pos hw] at hh
    cases k <;> simp only at hh ⊢
    · obtain ⟨v, h1, h2⟩ := hh; exact ⟨v, h1, h _ _ _ hC' hs h2⟩
    · obtain ⟨v, h1, h3, h2⟩ := hh; exact ⟨v, h1, fun w hw => h3 w (hs w hw), h _ _ _ hC' hs h2⟩
    · obtain ⟨mk, T, cs, h1, h2⟩ := hh; exact ⟨mk, T, cs, h1, fun g hg => h _ _ _ (hC'.and blk_nil) (fun w hw => ⟨hs w hw.1, hw.2⟩) (h2 g hg)⟩
    · obtain ⟨ι, x0, val, T, h0, h3, h1, h2⟩ := hh; exact ⟨ι, x0, val, T, h0, h3, fun w hw => h1 w (hs w hw), h2⟩
    · obtain ⟨ι, x0, val, T, h0, h1, h2⟩ := hh; exact ⟨ι, x0, val, T, h0, fun w hw => h1 w (hs w hw), h2⟩
  · rename_i hw
    rw [if_neg hw] at hh
    exact h _ _ _ hC' hs hh

/-- The same from a state in which the operation sees no difference. -/
theorem gOp1_at {k : Kg} {o : Oper} {K K' : (World → Prop) → Act → Prop} {C : World → Prop} {a a1 : Act} (he : execOp a.eval o = execOp a1.eval o) (hw : Region.wanted o (yielded ops a.tmps) = Region.wanted o (yielded ops a1.tmps))
    (hK : ∀ C' u, ((∀ w, C w → B w) → k ≠ .own → ∀ w, C' w → B w) → K C' (a1.put o.dst u) → K' C' (a.put o.dst u)) (hh : gOp1 P ops B M N k o K C a1) : gOp1 P ops B M N k o K' C a := by
  unfold gOp1 Oper.quietAt bigAt at *
  rw [he, hw]
  split
  · rename_i hw
    rw [if_pos hw] at hh
    cases k <;> simp only at hh ⊢
    · obtain ⟨v, h1, h2⟩ := hh; exact ⟨v, h1, hK _ _ (fun h _ => h) h2⟩
    · obtain ⟨v, h1, h3, h2⟩ := hh; exact ⟨v, h1, h3, hK _ _ (fun h _ => h) h2⟩
    · obtain ⟨mk, T, cs, h1, h2⟩ := hh; exact ⟨mk, T, cs, h1, fun g hg => hK _ _ (fun h _ w hw => h w hw.1) (h2 g hg)⟩
    · obtain ⟨ι, x0, val, T, h0, h3, h1, h2⟩ := hh; exact ⟨ι, x0, val, T, h0, h3, h1, fun v => hK _ _ (fun _ _ w hw => h3 v w hw) (h2 v)⟩
    · obtain ⟨ι, x0, val, T, h0, h1, h2⟩ := hh; exact ⟨ι, x0, val, T, h0, h1, fun v => hK _ _ (fun _ h => absurd rfl h) (h2 v)⟩
  · rename_i hw
    rw [if_neg hw] at hh
    exact hK _ _ (fun h _ => h) hh

theorem gOp1_not {k : Kg} {o : Oper} {K : (World → Prop) → Act → Prop} {C : World → Prop} {a : Act} (hw : ¬ Region.wanted o (yielded ops a.tmps) = true) : gOp1 P ops B M N k o K C a = K C (a.put o.dst undef) := by
  unfold gOp1; rw [if_neg hw]

/-- An operation that makes a block makes one kind of block. -/
theorem new_det {a : Act} {o : Oper} {mk mk' : Nat → Value} {T T' : TypeId} {cs cs' : List Value} (h : ∀ w, (execOp a.eval o).run P w = .ok (.value (mk w.heap.size)) (w.alloc (.cells cs.toArray T)))
    (h' : ∀ w, (execOp a.eval o).run P w = .ok (.value (mk' w.heap.size)) (w.alloc (.cells cs'.toArray T'))) : mk' = mk ∧ T' = T ∧ cs' = cs := by
  refine ⟨funext fun g => ?_, ?_⟩
  · have e := (h' { (default : World) with heap := Array.replicate g (.cells #[] 0) }).symm.trans (h _)
    simp only [Result.ok.injEq, Next.value.injEq, Array.size_replicate] at e
    exact e.1
  · have e := (h' default).symm.trans (h default)
    simp only [Result.ok.injEq] at e
    have e2 : (World.alloc default (.cells cs'.toArray T')).heap[(default : World).heap.size]? = (World.alloc default (.cells cs.toArray T)).heap[(default : World).heap.size]? := by rw [e.2]
    rw [heap_alloc_new, heap_alloc_new] at e2
    simp at e2
    exact ⟨e2.2, e2.1⟩

theorem swapG {ki kj : Kg} {oi oj : Oper} (hMN : ∀ x ∈ M, x < N) (hap : oi.apart ops oj = true) (hfine : ki.fine kj = true) (hsi : ∀ cs b, oi.op ≠ .select cs b) (hsj : ∀ cs b, oj.op ≠ .select cs b) {K : (World → Prop) → Act → Prop} (hK : Anti N K) {C : World → Prop} {a : Act} (hC : Gd N C)
    (h : gOp1 P ops B M N ki oi (gOp1 P ops B M N kj oj K) C a) : gOp1 P ops B M N kj oj (gOp1 P ops B M N ki oi K) C a := by
  obtain ⟨h1, h2, h3⟩ := Oper.apart_spec hap
  have hput : ∀ u v, (a.put oj.dst u).put oi.dst v = (a.put oi.dst v).put oj.dst u := fun u v => (Act.put_comm a v u h2).symm
  have ei : ∀ u, execOp (a.put oj.dst u).eval oi = execOp a.eval oi := fun u => execOp_put oi hsi a oj.dst u h3
  have ej : ∀ v, execOp (a.put oi.dst v).eval oj = execOp a.eval oj := fun v => execOp_put oj hsj a oi.dst v h1
  have wi : ∀ u, Region.wanted oi (yielded ops (a.put oj.dst u).tmps) = Region.wanted oi (yielded ops a.tmps) := fun u => wanted_put oi a oj.dst u h3
  have wj : ∀ v, Region.wanted oj (yielded ops (a.put oi.dst v).tmps) = Region.wanted oj (yielded ops a.tmps) := fun v => wanted_put oj a oi.dst v h1
  have detP : ∀ u u', (∀ w, (execOp a.eval oj).run P w = .ok (.value u) w) → (∀ w, (execOp a.eval oj).run P w = .ok (.value u') w) → u' = u := fun u u' e1 e2 => by
    have e := (e2 default).symm.trans (e1 default)
    simpa using e
  by_cases hwi : Region.wanted oi (yielded ops a.tmps) = true
  · cases ki with
    | pure =>
      unfold gOp1 at h
      rw [if_pos hwi] at h
      simp only at h
      obtain ⟨v, hv, hk⟩ := h
      refine gOp1_at (ej v).symm (wj v).symm (fun C' u _ hh => ?_) hk
      unfold gOp1
      rw [if_pos (by rw [wi]; exact hwi)]
      exact ⟨v, fun w => by rw [ei]; exact hv w, by rw [hput]; exact hh⟩
    | quiet =>
      unfold gOp1 at h
      rw [if_pos hwi] at h
      simp only at h
      obtain ⟨v, hv, hCB, hk⟩ := h
      refine gOp1_at (ej v).symm (wj v).symm (fun C' u hr hh => ?_) hk
      unfold gOp1
      rw [if_pos (by rw [wi]; exact hwi)]
      exact ⟨v, fun w hw => by unfold Oper.quietAt; rw [ei]; exact hv w hw, hr hCB (fun e => by subst e; simp [Kg.fine] at hfine), by rw [hput]; exact hh⟩
    | new =>
      unfold gOp1 at h
      rw [if_pos hwi] at h
      simp only at h
      obtain ⟨mk, T, cs, hv, hk⟩ := h
      by_cases hwj : Region.wanted oj (yielded ops a.tmps) = true
      · cases kj with
        | pure =>
          have key : ∀ g, N ≤ g → ∃ u, (∀ w, (execOp a.eval oj).run P w = .ok (.value u) w) ∧ K (fun w => C w ∧ Blk w g T cs) ((a.put oi.dst (mk g)).put oj.dst u) := fun g hg => by
            have := hk g hg
            rw [if_pos (by rw [wj]; exact hwj)] at this
            simpa [ej] using this
          obtain ⟨u, hu, _⟩ := key N (Nat.le_refl _)
          unfold gOp1
          rw [if_pos hwj]
          refine ⟨u, hu, ?_⟩
          rw [if_pos (by rw [wi]; exact hwi)]
          refine ⟨mk, T, cs, fun w => by rw [ei]; exact hv w, fun g hg => ?_⟩
          obtain ⟨u', hu', hK'⟩ := key g hg
          rw [hput, ← detP u u' hu hu']; exact hK'
        | new =>
          have key : ∀ g, N ≤ g → ∃ (mk2 : Nat → Value) (T2 : TypeId) (cs2 : List Value), (∀ w, (execOp a.eval oj).run P w = .ok (.value (mk2 w.heap.size)) (w.alloc (.cells cs2.toArray T2))) ∧
              ∀ g2, N ≤ g2 → K (fun w => (C w ∧ Blk w g T cs) ∧ Blk w g2 T2 cs2) ((a.put oi.dst (mk g)).put oj.dst (mk2 g2)) := fun g hg => by
            have := hk g hg
            rw [if_pos (by rw [wj]; exact hwj)] at this
            simpa [ej] using this
          obtain ⟨mk2, T2, cs2, e2, _⟩ := key N (Nat.le_refl _)
          unfold gOp1
          rw [if_pos hwj]
          refine ⟨mk2, T2, cs2, e2, fun g2 hg2 => ?_⟩
          rw [if_pos (by rw [wi]; exact hwi)]
          refine ⟨mk, T, cs, fun w => by rw [ei]; exact hv w, fun g hg => ?_⟩
          obtain ⟨mk3, T3, cs3, e3, e4⟩ := key g hg
          obtain ⟨rfl, rfl, rfl⟩ := new_det e2 e3
          rw [hput]
          exact hK _ _ _ ((hC.and blk_nil).and blk_nil) (fun w hw => ⟨⟨hw.1.1, hw.2⟩, hw.1.2⟩) (e4 g2 hg2)
        | quiet => simp [Kg.fine] at hfine
        | big => simp [Kg.fine] at hfine
        | own => simp [Kg.fine] at hfine
      · rw [gOp1_not hwj]
        unfold gOp1
        rw [if_pos (by rw [wi]; exact hwi)]
        refine ⟨mk, T, cs, fun w => by rw [ei]; exact hv w, fun g hg => ?_⟩
        have := hk g hg
        rw [if_neg (by rw [wj]; exact hwj)] at this
        rw [hput]; exact this
    | big =>
      unfold gOp1 at h
      rw [if_pos hwi] at h
      simp only at h
      obtain ⟨ι, x0, val, T, hT, hTB, hv, hk⟩ := h
      by_cases hwj : Region.wanted oj (yielded ops a.tmps) = true
      · cases kj with
        | pure =>
          have key : ∀ x, ∃ u, (∀ w, (execOp a.eval oj).run P w = .ok (.value u) w) ∧ K (T x) ((a.put oi.dst (val x)).put oj.dst u) := fun x => by
            have := hk x
            rw [if_pos (by rw [wj]; exact hwj)] at this
            simpa [ej] using this
          obtain ⟨u, hu, _⟩ := key x0
          unfold gOp1
          rw [if_pos hwj]
          refine ⟨u, hu, ?_⟩
          rw [if_pos (by rw [wi]; exact hwi)]
          refine ⟨ι, x0, val, T, hT, hTB, fun w hw => by unfold bigAt; rw [ei]; exact hv w hw, fun x => ?_⟩
          obtain ⟨u', hu', hK'⟩ := key x
          rw [hput, ← detP u u' hu hu']; exact hK'
        | new =>
          have key : ∀ x, ∃ (mk2 : Nat → Value) (T2 : TypeId) (cs2 : List Value), (∀ w, (execOp a.eval oj).run P w = .ok (.value (mk2 w.heap.size)) (w.alloc (.cells cs2.toArray T2))) ∧
              ∀ g2, N ≤ g2 → K (fun w => T x w ∧ Blk w g2 T2 cs2) ((a.put oi.dst (val x)).put oj.dst (mk2 g2)) := fun x => by
            have := hk x
            rw [if_pos (by rw [wj]; exact hwj)] at this
            simpa [ej] using this
          obtain ⟨mk2, T2, cs2, e2, _⟩ := key x0
          unfold gOp1
          rw [if_pos hwj]
          refine ⟨mk2, T2, cs2, e2, fun g2 hg2 => ?_⟩
          rw [if_pos (by rw [wi]; exact hwi)]
          refine ⟨ι, x0, val, fun x w => T x w ∧ Blk w g2 T2 cs2, fun x => (hT x).and blk_nil, fun x w hw => hTB x w hw.1, fun w hw => ?_, fun x => ?_⟩
          · have hb : bigAt P oi a w (fun v w' => Kp M w w' ∧ ∃ x, v = val x ∧ T x w') := hv w hw.1
            unfold bigAt
            rw [ei]
            exact hb.mono fun v w' ⟨e5, x, e6, e7⟩ => ⟨e5, x, e6, e7, hw.2.keep e5 (fun hm => by have := hMN _ hm; omega)⟩
          · obtain ⟨mk3, T3, cs3, e3, e4⟩ := key x
            obtain ⟨rfl, rfl, rfl⟩ := new_det e2 e3
            rw [hput]
            exact e4 g2 hg2
        | quiet => simp [Kg.fine] at hfine
        | big => simp [Kg.fine] at hfine
        | own => simp [Kg.fine] at hfine
      · rw [gOp1_not hwj]
        unfold gOp1
        rw [if_pos (by rw [wi]; exact hwi)]
        refine ⟨ι, x0, val, T, hT, hTB, fun w hw => by unfold bigAt; rw [ei]; exact hv w hw, fun x => ?_⟩
        have := hk x
        rw [if_neg (by rw [wj]; exact hwj)] at this
        rw [hput]; exact this
    | own =>
      unfold gOp1 at h
      rw [if_pos hwi] at h
      simp only at h
      obtain ⟨ι, x0, val, T, hT, hv, hk⟩ := h
      by_cases hwj : Region.wanted oj (yielded ops a.tmps) = true
      · cases kj with
        | pure =>
          have key : ∀ x, ∃ u, (∀ w, (execOp a.eval oj).run P w = .ok (.value u) w) ∧ K (T x) ((a.put oi.dst (val x)).put oj.dst u) := fun x => by
            have := hk x
            rw [if_pos (by rw [wj]; exact hwj)] at this
            simpa [ej] using this
          obtain ⟨u, hu, _⟩ := key x0
          unfold gOp1
          rw [if_pos hwj]
          refine ⟨u, hu, ?_⟩
          rw [if_pos (by rw [wi]; exact hwi)]
          refine ⟨ι, x0, val, T, hT, fun w hw => by unfold bigAt; rw [ei]; exact hv w hw, fun x => ?_⟩
          obtain ⟨u', hu', hK'⟩ := key x
          rw [hput, ← detP u u' hu hu']; exact hK'
        | new => simp [Kg.fine] at hfine
        | quiet => simp [Kg.fine] at hfine
        | big => simp [Kg.fine] at hfine
        | own => simp [Kg.fine] at hfine
      · rw [gOp1_not hwj]
        unfold gOp1
        rw [if_pos (by rw [wi]; exact hwi)]
        refine ⟨ι, x0, val, T, hT, fun w hw => by unfold bigAt; rw [ei]; exact hv w hw, fun x => ?_⟩
        have := hk x
        rw [if_neg (by rw [wj]; exact hwj)] at this
        rw [hput]; exact this
  · rw [gOp1_not hwi] at h
    refine gOp1_at (ej undef).symm (wj undef).symm (fun C' u _ hh => ?_) h
    rw [gOp1_not (by rw [wi]; exact hwi), hput]
    exact hh

def gOp (P : Program) (ops : Array Oper) (B : World → Prop) (M : List Nat) (N : Nat) (κ : Nat → Kg) (i : Nat) (K : (World → Prop) → Act → Prop) (C : World → Prop) (a : Act) : Prop :=
  match ops[i]? with
  | none => K C a
  | some o => gOp1 P ops B M N (κ i) o K C a
theorem gOp_mono {κ : Nat → Kg} {i : Nat} {K K' : (World → Prop) → Act → Prop} (h : ∀ C a, Gd N C → K C a → K' C a) {C : World → Prop} {a : Act} (hC : Gd N C) (hh : gOp P ops B M N κ i K C a) : gOp P ops B M N κ i K' C a := by
  unfold gOp at *
  cases ho : ops[i]? with
  | none => simp only [ho] at hh ⊢; exact h _ _ hC hh
  | some o => simp only [ho] at hh ⊢; exact gOp1_mono h hC hh
theorem gOp_anti {κ : Nat → Kg} {i : Nat} {K : (World → Prop) → Act → Prop} (h : Anti N K) : Anti N (gOp P ops B M N κ i K) := by
  intro C C' a hC' hs hh
  unfold gOp at *
  cases ho : ops[i]? with
  | none => simp only [ho] at hh ⊢; exact h _ _ _ hC' hs hh
  | some o => simp only [ho] at hh ⊢; exact gOp1_anti h _ _ _ hC' hs hh

def doneG (pre : List Nat) (listed : Array Bool) : Prop := ∀ i ∈ pre, listed.getD i false = true

def wpAnyG (P : Program) (md : Region.Mode) (ops : Array Oper) (B : World → Prop) (M : List Nat) (N : Nat) (κ : Nat → Kg) (Q : Exit → Act → World → Prop) (pre : List Nat) : Nat → Array Bool → (World → Prop) → Act → Prop
  | 0, listed, C, a => Region.ready md ops listed = [] ∧ ∀ w, C w → Q .normal a w
  | fuel + 1, listed, C, a => (doneG pre listed → ∀ w, C w → wpAny P md ops Q (fuel + 1) listed a w) ∧
    (¬ doneG pre listed → (Region.ready md ops listed = [] → ∀ w, C w → Q .normal a w) ∧
      ∀ i ∈ Region.ready md ops listed, gOp P ops B M N κ i (wpAnyG P md ops B M N κ Q pre fuel (listed.setIfInBounds i true)) C a)

theorem wpAnyG_anti {κ : Nat → Kg} {pre : List Nat} : ∀ (fuel : Nat) (listed : Array Bool), Anti N (wpAnyG P md ops B M N κ Q pre fuel listed)
  | 0, _ => fun C C' a _ hs h => ⟨h.1, fun w hw => h.2 w (hs w hw)⟩
  | fuel + 1, listed => fun C C' a hC' hs h => ⟨fun hd w hw => h.1 hd w (hs w hw), fun hd => ⟨fun h0 w hw => (h.2 hd).1 h0 w (hs w hw), fun i hi => gOp_anti (wpAnyG_anti fuel _) C C' a hC' hs ((h.2 hd).2 i hi)⟩⟩

theorem wp_of_quietAt {o : Oper} {a : Act} {D : World → Prop} {K' : Act → World → Prop} {w : World} {v : Value} (hw : D w) (h3 : o.quietAt P a D w v) (h : ∀ w', D w' → K' (a.put o.dst v) w') : o.wp P a w K' Q := by
  unfold Oper.quietAt at h3
  unfold Oper.wp
  generalize (execOp a.eval o).run P w = r at *
  cases r with
  | ok n w' =>
    cases n <;> simp only [Oper.quietUpon] at h3 <;> simp only [Oper.upon]
    case value u => obtain ⟨rfl, rfl⟩ := h3; exact h _ hw
    case skip => obtain ⟨rfl, rfl⟩ := h3; exact h _ hw
    case enter f args =>
      obtain ⟨rfl, h4⟩ := h3
      refine h4.mono fun e w'' he => ?_
      obtain ⟨rfl, h5⟩ := he
      exact h _ h5
  | halt h w' => exact h3.elim
theorem wp_of_bigAt {o : Oper} {a : Act} {K' : Act → World → Prop} {w : World} {post : Value → World → Prop} (h3 : bigAt P o a w post) (h : ∀ v w', post v w' → K' (a.put o.dst v) w') : o.wp P a w K' Q := by
  unfold bigAt at h3
  unfold Oper.wp
  generalize (execOp a.eval o).run P w = r at *
  cases r with
  | ok n w' =>
    cases n <;> simp only at h3 <;> simp only [Oper.upon]
    case value u => exact h _ _ h3
    case skip => exact h _ _ h3
    case enter f args =>
      refine h3.mono fun e w'' he => ?_
      cases e with
      | returned u => exact h _ _ he
      | panicked c => exact he.elim
      | outgrown => exact he.elim
  | halt h w' => exact h3.elim

theorem wpOp_of_gOp {κ : Nat → Kg} {i : Nat} {K : (World → Prop) → Act → Prop} {K' : Act → World → Prop} (h : ∀ C a, Gd N C → K C a → ∀ w, C w → K' a w) {C : World → Prop} (hC : Gd N C) {a : Act} {w : World} (hw : C w) (hh : gOp P ops B M N κ i K C a) : wpOp P ops Q i K' a w := by
  unfold gOp at hh
  unfold wpOp
  cases ho : ops[i]? with
  | none => simp only [ho] at hh ⊢; exact h _ _ hC hh w hw
  | some o =>
    simp only [ho] at hh ⊢
    unfold gOp1 at hh
    split
    · rename_i hwt
      rw [if_pos hwt] at hh
      refine .inl ?_
      cases hk : κ i <;> simp only [hk] at hh
      · obtain ⟨v, h1, h2⟩ := hh
        unfold Oper.wp
        rw [h1 w, Oper.upon_value]
        exact h _ _ hC h2 w hw
      · obtain ⟨v, h1, h3, h2⟩ := hh
        exact wp_of_quietAt (Kp.refl _ _) (h1 w (h3 w hw)) fun w' hk => h _ _ hC h2 w' (hC.1 w w' hw hk)
      · obtain ⟨mk, T, cs, h1, h2⟩ := hh
        unfold Oper.wp
        rw [h1 w, Oper.upon_value]
        exact h _ _ (hC.and blk_nil) (h2 _ (hC.2 w hw)) _ ⟨hC.1 w _ hw (Kp.alloc _ _), Blk.new _ _ _⟩
      · obtain ⟨ι, x0, val, T, h0, _, h1, h2⟩ := hh
        exact wp_of_bigAt (h1 w hw) fun v w' ⟨_, x, e1, e2⟩ => by subst e1; exact h _ _ (h0 x) (h2 x) w' e2
      · obtain ⟨ι, x0, val, T, h0, h1, h2⟩ := hh
        exact wp_of_bigAt (h1 w hw) fun v w' ⟨x, e1, e2⟩ => by subst e1; exact h _ _ (h0 x) (h2 x) w' e2
    · rename_i hwt
      rw [if_neg hwt] at hh
      exact h _ _ hC hh w hw

theorem wpAny_of_G {κ : Nat → Kg} {pre : List Nat} : ∀ (fuel : Nat) (listed : Array Bool) (C : World → Prop) (a : Act) (w : World), Gd N C → C w → wpAnyG P md ops B M N κ Q pre fuel listed C a → wpAny P md ops Q fuel listed a w
  | 0, _, _, _, w, _, hw, h => ⟨h.1, h.2 w hw⟩
  | fuel + 1, listed, _, _, w, hC, hw, h => by
    by_cases hd : doneG pre listed
    · exact h.1 hd w hw
    · exact ⟨fun h0 => (h.2 hd).1 h0 w hw, fun i hi => wpOp_of_gOp (fun C' a' hC' hK w' hw' => wpAny_of_G fuel _ C' a' w' hC' hw' hK) hC hw ((h.2 hd).2 i hi)⟩

theorem wpAnyG_first (hMN : ∀ x ∈ M, x < N) {κ : Nat → Kg} {pre : List Nat} {F i : Nat} {oi : Oper} (him : i ∈ pre) (hi : ops[i]? = some oi) (hsel : ∀ (j : Nat) (o : Oper) cs b, ops[j]? = some o → o.op ≠ .select cs b)
    (htail : ∀ j, j ∉ pre → j < ops.size → rch md ops i F j = true) :
    ∀ (fuel : Nat) (listed : Array Bool) (C : World → Prop) (a : Act), Gd N C → Cl md ops listed →
      (∀ j oj, ops[j]? = some oj → j ≠ i → listed.getD j true = false → rch md ops i F j = false → oi.apart ops oj = true ∧ (κ i).fine (κ j) = true) →
      i ∈ Region.ready md ops listed → gOp1 P ops B M N (κ i) oi (wpAnyG P md ops B M N κ Q pre fuel (listed.setIfInBounds i true)) C a → wpAnyG P md ops B M N κ Q pre (fuel + 1) listed C a := by
  intro fuel
  induction fuel with
  | zero =>
    intro listed C a _ hc _ hr H
    have hnd : ¬ doneG pre listed := fun h => by have := h i him; rw [unlisted_of_ready hr] at this; cases this
    refine ⟨fun h => absurd h hnd, fun _ => ⟨fun h => (by rw [h] at hr; cases hr), fun j hj => ?_⟩⟩
    by_cases hji : j = i
    · subst hji; unfold gOp; simp only [hi]; exact H
    · have h1 := ready_mono hj hji
      have h0 : Region.ready md ops (listed.setIfInBounds i true) = [] := by
        unfold gOp1 at H
        split at H
        · cases hk : κ i <;> simp only [hk] at H
          · obtain ⟨v, _, h2⟩ := H; exact h2.1
          · obtain ⟨v, _, _, h2⟩ := H; exact h2.1
          · obtain ⟨_, _, _, _, h2⟩ := H; exact (h2 N (Nat.le_refl _)).1
          · obtain ⟨_, x0, _, _, _, _, _, h2⟩ := H; exact (h2 x0).1
          · obtain ⟨_, x0, _, _, _, _, h2⟩ := H; exact (h2 x0).1
        · exact H.1
      rw [h0] at h1; cases h1
  | succ fuel ih =>
    intro listed C a hC hc hfree hr H
    have hun := unlisted_of_ready hr
    have hnd : ¬ doneG pre listed := fun h => by have := h i him; rw [hun] at this; cases this
    refine ⟨fun h => absurd h hnd, fun _ => ⟨fun h => (by rw [h] at hr; cases hr), fun j hj => ?_⟩⟩
    by_cases hji : j = i
    · subst hji; unfold gOp; simp only [hi]; exact H
    · obtain ⟨hjun, oj, hoj, hall⟩ := mem_ready.1 hj
      have hnr := rch_ready hc hun hj F
      have hjm : j ∈ pre := by
        by_cases h' : j ∈ pre
        · exact h'
        · rw [htail j h' (Array.getElem?_eq_some_iff.1 hoj).1] at hnr; cases hnr
      have hnd2 : ¬ doneG pre (listed.setIfInBounds i true) := fun h => by
        have h1 := h j hjm
        rw [getD_set_ne false (Ne.symm hji), unlisted_of_ready hj] at h1; cases h1
      have hf := hfree j oj hoj hji hjun hnr
      have H2 : gOp1 P ops B M N (κ i) oi (gOp1 P ops B M N (κ j) oj (wpAnyG P md ops B M N κ Q pre fuel ((listed.setIfInBounds i true).setIfInBounds j true))) C a :=
        gOp1_mono (fun C' a' _ hK => by
          have := (hK.2 hnd2).2 j (ready_mono hj hji)
          unfold gOp at this
          simpa only [hoj] using this) hC H
      have h2 := swapG hMN hf.1 hf.2 (fun cs b => hsel i oi cs b hi) (fun cs b => hsel j oj cs b hoj) (wpAnyG_anti fuel _) hC H2
      have hfree' : ∀ k ok, ops[k]? = some ok → k ≠ i → (listed.setIfInBounds j true).getD k true = false → rch md ops i F k = false → oi.apart ops ok = true ∧ (κ i).fine (κ k) = true := fun k ok hk hki hun hno => by
        refine hfree k ok hk hki ?_ hno
        by_cases hjk : j = k
        · subst hjk; exact hjun
        · rw [getD_set_ne true hjk] at hun; exact hun
      unfold gOp
      simp only [hoj]
      refine gOp1_mono (fun C' a' hC' h3 => ?_) hC h2
      refine ih (listed.setIfInBounds j true) C' a' hC' (hc.step hj) hfree' (ready_mono hr (Ne.symm hji)) ?_
      rw [Array.setIfInBounds_comm _ _ hji]
      exact h3

/-! ### The check, and the walk in the order chosen -/
def freeG (ops : Array Oper) (T : List Nat) (κ : Nat → Kg) (pre : List Nat) (listed : Array Bool) (i : Nat) : Bool :=
  match ops[i]? with
  | none => false
  | some oi => (List.range ops.size).all fun j => (j == i || listed.getD j true || (T.getD j 0).testBit i || match ops[j]? with
      | some oj => oi.apart ops oj && (κ i).fine (κ j)
      | none => true) && (pre.contains j || (T.getD j 0).testBit i)

def tailG (md : Region.Mode) (ops : Array Oper) : List Nat → Array Bool → Bool
  | [], listed => (Region.ready md ops listed).isEmpty
  | k :: r, listed => Region.ready md ops listed == [k] && tailG md ops r (listed.setIfInBounds k true)

def lexFromG (md : Region.Mode) (ops : Array Oper) (T : List Nat) (κ : Nat → Kg) (pre tl : List Nat) : List Nat → Array Bool → Bool
  | [], listed => pre.all (fun i => listed.getD i false) && tailG md ops tl listed
  | k :: r, listed => (Region.ready md ops listed).contains k && freeG ops T κ pre listed k && pre.contains k && lexFromG md ops T κ pre tl r (listed.setIfInBounds k true)

def lexG (ops : Array Oper) (κ : Nat → Kg) (pre tl : List Nat) : Bool := Region.noSelect ops && (pre.length + tl.length == ops.size) && lexFromG .any ops (ancs .any ops.toList []) κ pre tl pre (Array.replicate ops.size false)

def wpG (P : Program) (L : List Oper) (B : World → Prop) (M : List Nat) (N : Nat) (κ : Nat → Kg) (Q : Exit → Act → World → Prop) (tl : List Nat) : List Nat → (World → Prop) → Act → Prop
  | [], C, a => ∀ w, C w → wpList P L.toArray Q (tl.map (nth L)) a w
  | i :: r, C, a => gOp1 P L.toArray B M N (κ i) (nth L i) (wpG P L B M N κ Q tl r) C a

theorem wpAny_tailG {L : List Oper} : ∀ (tl : List Nat) (listed : Array Bool) (a : Act) (w : World), tailG md L.toArray tl listed = true → wpList P L.toArray Q (tl.map (nth L)) a w → wpAny P md L.toArray Q tl.length listed a w
  | [], listed, a, w, hB, h => ⟨by simpa [tailG] using hB, h⟩
  | k :: r, listed, a, w, hB, h => by
    simp only [tailG, Bool.and_eq_true, beq_iff_eq] at hB
    refine wpAny_all hB.1 (by simp) fun i hi => ?_
    simp only [List.mem_singleton] at hi
    subst hi
    have hr : i ∈ Region.ready md L.toArray listed := by rw [hB.1]; simp
    obtain ⟨_, o, ho, _⟩ := mem_ready.1 hr
    have hn : nth L i = o := nth_get (by simpa using ho)
    unfold wpOp
    simp only [ho]
    simp only [List.map_cons, hn] at h
    unfold wpList at h
    have hrec := fun a w => wpAny_tailG r (listed.setIfInBounds i true) a w hB.2
    split
    · rename_i hw; rw [if_pos hw] at h; exact h.imp (Oper.wp_mono hrec) id
    · rename_i hw; rw [if_neg hw] at h; exact hrec _ _ h

theorem freeG_spec {T : List Nat} (hT : ∀ i j, j < ops.size → (T.getD j 0).testBit i = true → rch md ops i ops.size j = true) {κ : Nat → Kg} {pre : List Nat} {i : Nat} {oi : Oper} {listed : Array Bool} (hi : ops[i]? = some oi) (h : freeG ops T κ pre listed i = true) :
    (∀ j oj, ops[j]? = some oj → j ≠ i → listed.getD j true = false → rch md ops i ops.size j = false → oi.apart ops oj = true ∧ (κ i).fine (κ j) = true) ∧
    (∀ j, j ∉ pre → j < ops.size → rch md ops i ops.size j = true) := by
  simp only [freeG, hi, List.all_eq_true, List.mem_range] at h
  refine ⟨fun j oj hj hne hun hno => ?_, fun j hm hj => ?_⟩
  · have h1 := h j (Array.getElem?_eq_some_iff.1 hj).1
    rw [Bool.and_eq_true] at h1
    have hno' : (T.getD j 0).testBit i = false := Bool.eq_false_iff.2 fun hb => by rw [hT i j (Array.getElem?_eq_some_iff.1 hj).1 hb] at hno; cases hno
    simpa [hj, hne, hun, hno', -List.getD_eq_getElem?_getD] using h1.1
  · have h1 := h j hj
    rw [Bool.and_eq_true] at h1
    have h2 := h1.2
    simp only [Bool.or_eq_true, List.contains_iff_mem] at h2
    exact hT i j hj (h2.resolve_left hm)

theorem wpAnyG_lex (hMN : ∀ x ∈ M, x < N) {L : List Oper} {T : List Nat} (hT : ∀ i j, j < L.toArray.size → (T.getD j 0).testBit i = true → rch md L.toArray i L.toArray.size j = true) {κ : Nat → Kg} {pre tl : List Nat} (hs : Region.noSelect L.toArray = true) : ∀ (r : List Nat) (listed : Array Bool) (C : World → Prop) (a : Act), Gd N C → Cl md L.toArray listed →
    lexFromG md L.toArray T κ pre tl r listed = true → wpG P L B M N κ Q tl r C a → wpAnyG P md L.toArray B M N κ Q pre (r.length + tl.length) listed C a
  | [], listed, C, a, hC, _, hB, h => by
    simp only [lexFromG, Bool.and_eq_true, List.all_eq_true] at hB
    have ht : ∀ w, C w → wpAny P md L.toArray Q tl.length listed a w := fun w hw => wpAny_tailG tl listed a w hB.2 (h w hw)
    rw [List.length_nil, Nat.zero_add]
    cases tl with
    | nil => exact ⟨by simpa [tailG] using hB.2, fun w hw => (ht w hw).2⟩
    | cons k tl => exact ⟨fun _ => ht, fun hd => absurd hB.1 hd⟩
  | k :: r, listed, C, a, hC, hc, hB, h => by
    simp only [lexFromG, Bool.and_eq_true] at hB
    obtain ⟨⟨⟨hr, hf⟩, hk⟩, hB'⟩ := hB
    have hr' : k ∈ Region.ready md L.toArray listed := by simpa using hr
    obtain ⟨_, o, ho, _⟩ := mem_ready.1 hr'
    have hn : nth L k = o := nth_get (by simpa using ho)
    obtain ⟨hf1, hf2⟩ := freeG_spec hT ho hf
    have h' : gOp1 P L.toArray B M N (κ k) o (wpG P L B M N κ Q tl r) C a := by rw [← hn]; exact h
    have := wpAnyG_first hMN (P := P) (Q := Q) (B := B) (M := M) (N := N) (κ := κ) (pre := pre) (by simpa using hk) ho (Region.noSelect_spec hs) hf2 (r.length + tl.length) listed C a hC hc hf1 hr'
      (gOp1_mono (fun C' a' hC' hK => wpAnyG_lex hMN hT hs r _ C' a' hC' (hc.step hr') hB' hK) hC h')
    rw [List.length_cons, show r.length + 1 + tl.length = (r.length + tl.length) + 1 from by omega]
    exact this

theorem c_drawG {id : Nat} {L : List Oper} {a : Act} {w : World} (pre tl : List Nat) (κ : Nat → Kg) (M : List Nat) (N : Nat) (hMN : ∀ x ∈ M, x < N) (hm : P.follows .mixedOrders = true) (hB : lexG L.toArray κ pre tl = true) (B : World → Prop) (hBs : ∀ w w', B w → Kp [] w w' → B w') (hC : B w.drew) (hBN : ∀ w, B w → N ≤ w.heap.size)
    (h : wpG P L B M N κ Q tl pre B a) : (Code.region id L.toArray true).wp P Q a w := by
  simp only [lexG, Bool.and_eq_true, beq_iff_eq] at hB
  have hG : Gd N B := ⟨hBs, hBN⟩
  have hcl : Cl .any L.toArray (Array.replicate L.toArray.size false) := fun j oj _ hl => by
    have h0 : (Array.replicate L.toArray.size false).getD j false = false := by
      rw [Array.getD_eq_getD_getElem?, Array.getElem?_replicate]; split <;> rfl
    rw [h0] at hl; cases hl
  have := wpAnyG_lex hMN (P := P) (Q := Q) (md := .any) (B := B) (M := M) (T := ancs .any L []) (fun i j hj h => ancs_rch hj h) hB.1.1 pre (Array.replicate L.toArray.size false) B a hG hcl hB.2 h
  rw [hB.1.2] at this
  exact wp_region_any hm (wpAny_of_G (κ := κ) (pre := pre) _ _ B a _ hG hC this)
end
end Go.Proofs.Ytkbngaollbmcbaa.KK

namespace Go.Proofs.Ytkbngaollbmcbaa.KK
open Go Go.RowKit

section
variable {P : Program} {L : List Oper} {B C : World → Prop} {M : List Nat} {N : Nat} {κ : Nat → Kg} {Q : Exit → Act → World → Prop} {tl r : List Nat} {i : Nat} {a : Act} {n : Nat} {l : List (Nat × Value)} {d : Nat} {v : Value}

theorem gP (F : Fr a n l) (hk : κ i = .pure) (h : ∀ w, Fires P (nth L i) n l w v w) (hw : wnt L.toArray l (nth L i) = some true) (hd : (nth L i).dst = some d) (hn : Nat.blt d n = true)
    (k : ∀ a', Fr a' n ((d, v) :: l) → wpG P L B M N κ Q tl r C a') : wpG P L B M N κ Q tl (i :: r) C a := by
  unfold wpG gOp1
  rw [if_pos (F.wanted hw)]
  simp only [hk]
  refine ⟨v, fun w => h w a F, ?_⟩
  rw [hd]
  exact k _ (F.put hn v)

theorem gQ (F : Fr a n l) (hk : κ i = .quiet) (h : ∀ w, B w → Fires P (nth L i) n l w v w) (hCB : ∀ w, C w → B w) (hw : wnt L.toArray l (nth L i) = some true) (hd : (nth L i).dst = some d) (hn : Nat.blt d n = true)
    (k : ∀ a', Fr a' n ((d, v) :: l) → wpG P L B M N κ Q tl r C a') : wpG P L B M N κ Q tl (i :: r) C a := by
  unfold wpG gOp1
  rw [if_pos (F.wanted hw)]
  simp only [hk]
  refine ⟨v, fun w hB => ?_, hCB, ?_⟩
  · unfold Oper.quietAt
    rw [h w hB a F]
    exact ⟨rfl, rfl⟩
  · rw [hd]
    exact k _ (F.put hn v)

/-- A call whose result is known. -/
theorem gC {f : FuncId} {args : Array Value} (F : Fr a n l) (hk : κ i = .quiet) (h : ∀ w, FiresC P (nth L i) n l w f args) (hc : ∀ w, B w → Calls P f args w (Ret fun u w' => u = v ∧ Kp [] w w')) (hCB : ∀ w, C w → B w) (hw : wnt L.toArray l (nth L i) = some true) (hd : (nth L i).dst = some d) (hn : Nat.blt d n = true)
    (k : ∀ a', Fr a' n ((d, v) :: l) → wpG P L B M N κ Q tl r C a') : wpG P L B M N κ Q tl (i :: r) C a := by
  unfold wpG gOp1
  rw [if_pos (F.wanted hw)]
  simp only [hk]
  refine ⟨v, fun w hB => ?_, hCB, ?_⟩
  · unfold Oper.quietAt
    rw [h w a F]
    refine ⟨rfl, (hc w hB).mono fun e w' he => ?_⟩
    cases e with
    | returned u => exact ⟨by rw [he.1], he.2⟩
    | panicked c => exact he.elim
    | outgrown => exact he.elim
  · rw [hd]
    exact k _ (F.put hn v)

/-- It makes a block, whatever the world. -/
def Makes (P : Program) (o : Oper) (n : Nat) (l : List (Nat × Value)) (mk : Nat → Value) (T : TypeId) (cs : List Value) : Prop :=
  ∀ a, Fr a n l → ∀ w : World, (execOp a.eval o).run P w = .ok (.value (mk w.heap.size)) (w.alloc (.cells cs.toArray T))
theorem gN {mk : Nat → Value} {T : TypeId} {cs : List Value} (F : Fr a n l) (hk : κ i = .new) (h : Makes P (nth L i) n l mk T cs) (hw : wnt L.toArray l (nth L i) = some true) (hd : (nth L i).dst = some d) (hn : Nat.blt d n = true)
    (k : ∀ g a', N ≤ g → Fr a' n ((d, mk g) :: l) → wpG P L B M N κ Q tl r (fun w => C w ∧ Blk w g T cs) a') : wpG P L B M N κ Q tl (i :: r) C a := by
  unfold wpG gOp1
  rw [if_pos (F.wanted hw)]
  simp only [hk]
  refine ⟨mk, T, cs, h a F, fun g hg => ?_⟩
  rw [hd]
  exact k g _ hg (F.put hn _)

/-- A call whose result is known up to what x tells. -/
theorem gB {ι : Type} {f : FuncId} {args : Array Value} (F : Fr a n l) (hk : κ i = .big) (x0 : ι) (val : ι → Value) (T : ι → World → Prop) (h : ∀ w, FiresC P (nth L i) n l w f args) (hT : ∀ x, Gd N (T x)) (hTB : ∀ x w, T x w → B w)
    (hc : ∀ w, C w → Calls P f args w (Ret fun u w' => Kp M w w' ∧ ∃ x, u = val x ∧ T x w')) (hw : wnt L.toArray l (nth L i) = some true) (hd : (nth L i).dst = some d) (hn : Nat.blt d n = true)
    (k : ∀ x a', Fr a' n ((d, val x) :: l) → wpG P L B M N κ Q tl r (T x) a') : wpG P L B M N κ Q tl (i :: r) C a := by
  unfold wpG gOp1
  rw [if_pos (F.wanted hw)]
  simp only [hk]
  refine ⟨ι, x0, val, T, hT, hTB, fun w hC => ?_, fun x => ?_⟩
  · unfold bigAt
    rw [h w a F]
    exact hc w hC
  · rw [hd]
    exact k x _ (F.put hn _)

theorem gNot (F : Fr a n l) (hw : wnt L.toArray l (nth L i) = some false) (hd : (nth L i).dst = some d) (hn : Nat.blt d n = true)
    (k : ∀ a', Fr a' n ((d, undef) :: l) → wpG P L B M N κ Q tl r C a') : wpG P L B M N κ Q tl (i :: r) C a := by
  unfold wpG gOp1
  rw [if_neg (by rw [F.wanted hw]; simp), hd]
  exact k _ (F.put hn undef)
theorem gEnd (h : ∀ w, C w → wpList P L.toArray Q (tl.map (nth L)) a w) : wpG P L B M N κ Q tl [] C a := h

theorem n_box {el : TypeId} {x : Operand} {d t p e g v} {cs : List Value} (hx : evl l x = some v) (hc : v.cells = cs.toArray) : Makes P ⟨d, .box el x, t, p, e, g⟩ n l (fun g => .pointer (some ⟨g, 0, none⟩)) el cs := fun a F w => by
  simp [execOp, Instr.box, F.eval hx, newVar, newRow, newObj, Sem.run, hc]
theorem n_alloc {el : TypeId} {d t p e g} {z : Value} {cs : List Value} (hz : ZeroIs P el z) (hc : z.cells = cs.toArray) : Makes P ⟨d, .alloc el, t, p, e, g⟩ n l (fun g => .pointer (some ⟨g, 0, none⟩)) el cs := fun a F w => by
  simp [execOp, Instr.alloc, hz w, newVar, newRow, newObj, Sem.run, hc]
theorem n_buildSlice {ty el : TypeId} {len : Nat} {parts : List (Nat × Operand)} {d t p e g} {vs : List (Nat × Value)} {cs : List Value} (hp : parts.map (fun q => (q.1, evl l q.2)) = vs.map (fun q => (q.1, some q.2)))
    (hv : ∀ w : World, (Instr.buildSlice ty len vs.toArray).run P w = .ok (.slice (some ⟨w.heap.size, 0, none⟩) len len) (w.alloc (.cells cs.toArray el))) :
    Makes P ⟨d, .buildSlice ty len parts.toArray, t, p, e, g⟩ n l (fun g => .slice (some ⟨g, 0, none⟩) len len) el cs := fun a F w => by
  simp [execOp, parts_eval F hp, hv]
/-- Two blocks that hold what differs are two. -/
theorem Blk.two {w : World} {g g' : Nat} {t t' : TypeId} {cs cs' : List Value} (h : Blk w g t cs) (h' : Blk w g' t' cs') (hne : t ≠ t' ∨ cs.length ≠ cs'.length) : g ≠ g' := by
  rintro rfl
  unfold Blk at h h'
  rw [h] at h'
  simp at h'
  obtain ⟨h1, h2⟩ := h'
  rcases hne with e | e
  · exact e h2
  · rw [h1] at e; exact e rfl
end
end Go.Proofs.Ytkbngaollbmcbaa.KK

namespace Go.Proofs.Ytkbngaollbmcbaa.KK
open Go Go.RowKit

section
variable {P : Program} {n : Nat} {l : List (Nat × Value)} {w w' : World}

theorem f_rem {x y : Operand} {d t u u2 p e g} {k : IntKind} {i j r : Int} (hx : evl l x = some (.int k i)) (hy : evl l y = some (.int k j)) (hj : j ≠ 0) (hr : i.tmod j = r) : Fires P ⟨d, .binOp .rem t x y u2, u, p, e, g⟩ n l w (.int k r) w := fun a F => by
  subst hr; simp [execOp, F.eval hx, F.eval hy, eqGuard, binOp, Op.intDiv, hj]
theorem f_index1 {s el : TypeId} {len : Nat} {x y : Operand} {d t p e g} {cs : List Value} {k : IntKind} {j : Int} {v : Value} (hx : evl l x = some (.agg cs.toArray)) (hy : evl l y = some (.int k j))
    (hs : P.underlying s = some (.array len el)) (ha : AggIs P el false) (hz : SizeIs P el 1) (h0 : 0 ≤ j) (h1 : j < len) (hv : cs[j.toNat]? = some v) : Fires P ⟨d, .index s x y, t, p, e, g⟩ n l w v w := fun a F => by
  simp [execOp, F.eval hx, F.eval hy, Instr.index, asIntOf, run_underlying hs, h0, h1, hz w, part, ha w, hv]
theorem f_sliceArr {s el : TypeId} {len sz : Nat} {x : Operand} {d t p e g} {ad : Addr} (hx : evl l x = some (.pointer (some ad))) (hs : P.underlying s = some (.array len el)) (hz : SizeIs P el sz) :
    Fires P ⟨d, .slice s x none none none, t, p, e, g⟩ n l w (.slice (some ad) len len) w := fun a F => by
  have h0 : ad.add (0 * sz) = ad := by simp [Addr.add]
  simp [execOp, F.eval hx, Instr.sliceAt, Instr.sliceBounds, Instr.sureAddr, run_underlying hs, hz w]
  intro _; simp [Addr.add]
theorem f_slice3 {s el : TypeId} {x y z q : Operand} {d t p e g} {A : Option Addr} {m c sz : Nat} {k k2 k3 : IntKind} {i j h : Int} (hx : evl l x = some (.slice A m c)) (hy : evl l y = some (.int k i)) (hz' : evl l z = some (.int k2 j)) (hq : evl l q = some (.int k3 h))
    (hs : P.underlying s = some (.slice el)) (hz : SizeIs P el sz) (h0 : 0 ≤ i) (h1 : i ≤ j) (h2 : j ≤ h) (h3 : h ≤ c) :
    Fires P ⟨d, .slice s x (some y) (some z) (some q), t, p, e, g⟩ n l w (.slice (if h.toNat = i.toNat then A else A.map (·.add (i.toNat * sz))) (j.toNat - i.toNat) (h.toNat - i.toNat)) w := fun a F => by
  have e1 : 0 ≤ j := by omega
  have e2 : 0 ≤ h := by omega
  have e3 : j ≤ max h 0 := by omega
  have e4 : i ≤ max j 0 := by omega
  simp [execOp, F.eval hx, F.eval hy, F.eval hz', F.eval hq, Instr.sliceAt, Instr.slice, Instr.sliceBounds, Instr.sliceBound, asIntOf, run_underlying hs, h0, h1, h3, e1, e2, e3, e4, hz w]

theorem flat_inv {α : Type} (f : α → List Value) (sz : Nat) (hz : 0 < sz) : ∀ (l : List α), (∀ x ∈ l, (f x).length = sz) → ∀ (j : Nat) (u : Value), (l.flatMap f)[j]? = some u → ∃ i r x, j = i * sz + r ∧ l[i]? = some x ∧ (f x)[r]? = some u
  | [], _, j, u, h => by simp at h
  | y :: l, hl, j, u, h => by
    have hy := hl y (by simp)
    rw [List.flatMap_cons] at h
    by_cases hj : j < sz
    · rw [List.getElem?_append_left (by omega)] at h
      exact ⟨0, j, y, by omega, rfl, h⟩
    · rw [List.getElem?_append_right (by omega), hy] at h
      obtain ⟨i, r, x, h1, h2, h3⟩ := flat_inv f sz hz l (fun z hz => hl z (by simp [hz])) _ _ h
      exact ⟨i + 1, r, x, by rw [Nat.add_mul]; omega, by simpa using h2, h3⟩
theorem flat_len {α : Type} (f : α → List Value) (sz : Nat) : ∀ (l : List α), (∀ x ∈ l, (f x).length = sz) → (l.flatMap f).length = l.length * sz
  | [], _ => by simp
  | y :: l, hl => by
    rw [List.flatMap_cons, List.length_append, hl y (by simp), flat_len f sz l (fun z hz => hl z (by simp [hz])), List.length_cons, Nat.add_mul]; omega

/-- append(s, xs...): s is a row of the call's own. -/
theorem f_appendN {s x : Operand} {d t p e g} {ty el sz bytes base : Nat} {A : Option Addr} {c c2 : Nat} {ad : Addr} {vs us : List Value} {z : Value} {i : TypeInfo} (hs : evl l s = some (.slice A vs.length c)) (hx : evl l x = some (.slice (some ad) us.length c2))
    (ht : P.underlying ty = some (.slice el)) (hi : P.info? el = some i) (hz : i.zero = some z) (hsize : i.size = sz) (hby : i.bytes = bytes) (hzs : z.cells.size = sz) (hsz : 0 < sz)
    (hown : Own w base el sz A c vs) (hb : ∀ k u, us[k]? = some u → RdAt w (ad.add (k * sz)) sz u) (h1 : ∀ v ∈ us, ∀ u ∈ v.cells.toList, u.oneCell' = true)
    (hbytes : (vs.length + us.length) * bytes ≤ 140737488355328) (h63 : vs.length + us.length ≤ 9223372036854775807) (hbase : base ≤ w.heap.size) (hne : 0 < vs.length + us.length ∨ A.isSome = true) :
    FiresE P ⟨d, .call { callee := .builtin .append, args := #[s, x], argTypes := #[ty, ty] }, t, p, e, g⟩ n l w
      (fun r w' => ∃ A' c', r = .slice A' (vs ++ us).length c' ∧ Own w' base el sz A' c' (vs ++ us) ∧ Kp (ob A) w w' ∧ (ob A' = ob A ∨ ob A' = [w.heap.size])) := fun a F => by
  have hcs : ∀ v ∈ us, (v.cells.toList).length = sz := fun v hv => by
    obtain ⟨k, hk, rfl⟩ := List.mem_iff_getElem.1 hv
    simpa using (hb k _ (List.getElem?_eq_getElem hk)).1
  obtain ⟨r, w', hrun, h2, h3, h4, h5⟩ := run_append_own_at (P := P) w base ty t el i z sz bytes ht hi hz hsize hby hzs hsz _ _ _ hown.1 ad us.length c2 (us.flatMap fun v => v.cells.toList) (flat_len _ sz us hcs)
    (fun j u hu => by
      obtain ⟨k, r, x, rfl, hk, hr⟩ := flat_inv _ sz hsz us hcs j u hu
      have := (hb k x hk).2 r u (by simpa using hr)
      rwa [add_add] at this) (fun u hu => by obtain ⟨v, hv, hu⟩ := List.mem_flatMap.1 hu; exact h1 v hv u hu) (by unfold maxLen; omega) hbytes hbase
  obtain ⟨A', c', rfl⟩ : ∃ A' c', r = .slice A' (vs.length + us.length) c' := by
    rcases h2.2 with ⟨rfl, h0⟩ | ⟨g, cap, cur, rfl, _⟩
    · rw [h0]; exact ⟨_, _, rfl⟩
    · exact ⟨_, _, rfl⟩
  refine ⟨.slice A' (vs.length + us.length) c', w', ?_, A', c', ?_, ⟨?_, ?_, ?_⟩, ?_, ?_⟩
  · simp [execOp, resolve, invoke, builtin, F.eval hs, F.eval hx, hrun]
  · simp
  · simpa using h2
  · intro u hu
    rcases List.mem_append.1 hu with hu | hu
    · exact hown.2.1 u hu
    · simpa using hcs u hu
  · rcases h2.2 with ⟨he, h0⟩ | ⟨g, cap, cur, he, _, _, hn, _⟩
    · simp; omega
    · injection he with _ _ hc; subst hc; simpa using hn
  · refine ⟨h3.os, h3.tape, h3.output, h3.size, fun k hk hm => h3.block k hk fun he => hm ?_⟩
    cases A with
    | none => simp [Value.ownBlock] at he
    | some q => simp [Value.ownBlock] at he; simp [ob, he]
  · cases A with
    | none =>
      cases A' with
      | none => exact .inl rfl
      | some q' =>
        refine .inr ?_
        rcases h5 with h5 | h5
        · simp [Value.ownBlock] at h5
        · simp [Value.ownBlock] at h5; simp [ob, h5]
    | some q =>
      cases A' with
      | none => rcases h5 with h5 | h5 <;> simp [Value.ownBlock] at h5
      | some q' =>
        rcases h5 with h5 | h5
        · simp [Value.ownBlock] at h5; exact .inl (by simp [ob, h5])
        · simp [Value.ownBlock] at h5; exact .inr (by simp [ob, h5])
end
end Go.Proofs.Ytkbngaollbmcbaa.KK

namespace Go.Proofs.Ytkbngaollbmcbaa.KK
open Go Go.RowKit

section
variable {P : Program} {n : Nat} {l : List (Nat × Value)} {w w' : World}

abbrev flatV (vs : List Value) : List Value := vs.flatMap fun v => v.cells.toList
theorem flatV_len {sz : Nat} {vs : List Value} (h : ∀ v ∈ vs, v.cells.size = sz) : (flatV vs).length = vs.length * sz := flat_len _ sz vs fun v hv => by simpa using h v hv
theorem flatV_take {sz : Nat} : ∀ {vs : List Value} (_ : ∀ v ∈ vs, v.cells.size = sz) (k : Nat), (flatV vs).take (k * sz) = flatV (vs.take k)
  | [], _, k => by simp [flatV]
  | v :: vs, h, 0 => by simp [flatV]
  | v :: vs, h, k + 1 => by
    have hv : v.cells.toList.length = sz := by simpa using h v (by simp)
    have ih := flatV_take (vs := vs) (fun u hu => h u (by simp [hu])) k
    simp only [flatV, List.flatMap_cons, List.take_succ_cons] at ih ⊢
    rw [List.take_append, hv, show (k + 1) * sz - sz = k * sz from by rw [Nat.add_mul]; omega, List.take_of_length_le (by rw [hv, Nat.add_mul]; omega), ih]

theorem Own.take {base e sz c : Nat} {A : Option Addr} {vs : List Value} (h : Own w base e sz A c vs) {k : Nat} (hk : k ≤ vs.length) : Own w base e sz A c (vs.take k) := by
  obtain ⟨⟨h1, h2⟩, h3, h4⟩ := h
  have hl : (vs.take k).length = k := by simp [hk]
  refine ⟨⟨?_, ?_⟩, fun v hv => h3 v (List.mem_of_mem_take hv), by omega⟩
  · rw [hl]; have := flatV_len (sz := sz) (vs := vs.take k) (fun v hv => h3 v (List.mem_of_mem_take hv)); rw [hl] at this; exact this
  · rcases h2 with ⟨h2, h0⟩ | ⟨g, cap, cur, hv, hg, hh, hn, hc, hcs, htk⟩
    · left
      have : k = 0 := by omega
      subst this
      injection h2 with e1 _ e3
      subst e1; subst e3
      simp
    · right
      injection hv with e1 _ e3
      subst e1; subst e3
      refine ⟨g, c, cur, by rw [hl], hg, hh, by rw [hl]; omega, hc, hcs, ?_⟩
      rw [hl]
      show _ = flatV (vs.take k)
      rw [← flatV_take h3 k, show flatV vs = _ from htk.symm, List.take_take, Nat.min_eq_left (Nat.mul_le_mul_right _ hk)]

/-- What an own row lies in. -/
theorem Own.opens {base e sz c : Nat} {A : Option Addr} {vs : List Value} (h : Own w base e sz A c vs) (hne : 0 < c) : ∃ g cur, A = some ⟨g, 0, none⟩ ∧ base ≤ g ∧ Blk w g e cur ∧ c ≤ maxLen ∧ cur.length = c * sz ∧ cur.take (vs.length * sz) = flatV vs := by
  obtain ⟨⟨h1, h2⟩, h3, h4⟩ := h
  rcases h2 with ⟨h2, h0⟩ | ⟨g, cap, cur, hv, hg, hh, hn, hc, hcs, htk⟩
  · injection h2 with _ _ e3; omega
  · injection hv with e1 _ e3
    subst e1; subst e3
    exact ⟨g, cur.toList, rfl, hg, by unfold Blk; simpa using hh, hc, by simpa using hcs, htk⟩
theorem Own.shuts {base e sz c g : Nat} {vs cur : List Value} (hg : base ≤ g) (hb : Blk w g e cur) (hc : c ≤ maxLen) (hl : cur.length = c * sz) (ht : cur.take (vs.length * sz) = flatV vs) (h3 : ∀ v ∈ vs, v.cells.size = sz) (h4 : vs.length ≤ c) :
    Own w base e sz (some ⟨g, 0, none⟩) c vs :=
  ⟨⟨flatV_len h3, .inr ⟨g, c, cur.toArray, rfl, hg, hb, h4, hc, by simpa using hl, by simpa using ht⟩⟩, h3, h4⟩

/-- append(s, xs...), there being room: in place. -/
theorem f_appendFit {s x : Operand} {d t p e g} {ty el sz base : Nat} {A : Option Addr} {c c2 k m : Nat} {ad : Addr} {vs us : List Value} {i : TypeInfo} (hs : evl l s = some (.slice A k c)) (hx : evl l x = some (.slice (some ad) m c2)) (hk : k = vs.length) (hm : m = us.length)
    (ht : P.underlying ty = some (.slice el)) (hi : P.info? el = some i) (hsize : i.size = sz) (hsz : 0 < sz)
    (hown : Own w base el sz A c vs) (hb : ∀ k u, us[k]? = some u → RdAt w (ad.add (k * sz)) sz u) (h1 : ∀ v ∈ us, ∀ u ∈ v.cells.toList, u.oneCell' = true) (hroom : vs.length + us.length ≤ c) (hc : 0 < c) :
    FiresE P ⟨d, .call { callee := .builtin .append, args := #[s, x], argTypes := #[ty, ty] }, t, p, e, g⟩ n l w
      (fun r w' => r = .slice A (k + m) c ∧ Own w' base el sz A c (vs ++ us) ∧ Kp (ob A) w w') := fun a F => by
  subst hk; subst hm
  have hcs : ∀ v ∈ us, (v.cells.toList).length = sz := fun v hv => by
    obtain ⟨k, hk, rfl⟩ := List.mem_iff_getElem.1 hv
    simpa using (hb k _ (List.getElem?_eq_getElem hk)).1
  obtain ⟨gA, cur, rfl, _⟩ := hown.opens hc
  obtain ⟨w', hrun, h2, h3⟩ := run_append_fits (P := P) (w := w) base ty t el i sz ht hi hsize gA vs.length c _ hown.1 ad us.length c2 (us.flatMap fun v => v.cells.toList) (flat_len _ sz us hcs)
    (fun j u hu => by
      obtain ⟨k, r, x, rfl, hk, hr⟩ := flat_inv _ sz hsz us hcs j u hu
      have := (hb k x hk).2 r u (by simpa using hr)
      rwa [add_add] at this) (fun u hu => by obtain ⟨v, hv, hu⟩ := List.mem_flatMap.1 hu; exact h1 v hv u hu) hroom
  refine ⟨_, w', ?_, rfl, ⟨?_, fun u hu => ?_, by simpa using hroom⟩, ⟨h3.os, h3.tape, h3.output, h3.size, fun k hk hm => h3.block k hk fun he => hm (by injection he with he; simp [ob, he])⟩⟩
  · simp [execOp, resolve, invoke, builtin, F.eval hs, F.eval hx, hrun]
  · simpa using h2
  · rcases List.mem_append.1 hu with hu | hu
    · exact hown.2.1 u hu
    · simpa using hcs u hu

/-- clear of the places behind an own row's elements. -/
theorem f_clear {x : Operand} {d t p e g} {ty el sz base : Nat} {A : Option Addr} {c m c2 : Nat} {r : Addr} {vs : List Value} {z : Value} (hx : evl l x = some (.slice (some r) m c2)) (hr : r = (adr A).add (vs.length * sz)) (hm : 0 < m)
    (ht : P.underlying ty = some (.slice el)) (hz : ZeroIs P el z) (hzs : z.cells.size = sz) (hzp : ∀ v ∈ z.cells.toList, plainV v = true)
    (hown : Own w base el sz A c vs) (hroom : vs.length + m ≤ c) :
    FiresE P ⟨d, .call { callee := .builtin .clear, args := #[x], argTypes := #[ty] }, t, p, e, g⟩ n l w (fun _ w' => Own w' base el sz A c vs ∧ Kp (ob A) w w') := fun a F => by
  obtain ⟨gA, cur, rfl, hb, hblk, hc, hl, htk⟩ := hown.opens (by omega)
  have hr' : r = ⟨gA, vs.length * sz, none⟩ := by rw [hr]; show (⟨gA, 0, none⟩ : Addr).add _ = _; rw [add_mk, Nat.zero_add]
  subst hr'
  have hzl : (Builtin.zeroCells z.cells m).toList.length = m * sz := by simp [Builtin.zeroCells, hzs]
  have hfit : vs.length * sz + m * sz ≤ c * sz := by rw [← Nat.add_mul]; exact Nat.mul_le_mul_right _ hroom
  have hst := run_storeCells (P := P) (g := gA) (t := el) (Builtin.zeroCells z.cells m).toList cur (vs.length * sz) 0 w hblk (by rw [hzl, hl]; omega) (fun v hv => by
    simp only [Builtin.zeroCells, Array.toList_map, List.mem_map, Array.toList_range, List.mem_range] at hv
    obtain ⟨j, hj, rfl⟩ := hv
    rcases Nat.eq_zero_or_pos z.cells.size with h0 | h0
    · rw [h0, Nat.mul_zero] at hj; omega
    · refine hzp _ ?_
      have := Nat.mod_lt j h0
      simp [this])
  refine ⟨.tuple #[], setBlk w gA el (lay cur (vs.length * sz) (Builtin.zeroCells z.cells m).toList), ?_, ?_, Kp.setBlk _ _ _ _⟩
  · obtain ⟨m, rfl⟩ : ∃ q, m = q + 1 := ⟨m - 1, by omega⟩
    simp [execOp, resolve, invoke, builtin, F.eval hx, Builtin.clear_, run_underlying ht, hz w]
    simp at hst
    rw [hst]; rfl
  · refine Own.shuts hb (hblk.set _) hc (by rw [lay_length, hl]) ?_ hown.2.1 hown.2.2
    rw [← htk]
    apply List.ext_getElem?
    intro j
    rw [List.getElem?_take, List.getElem?_take]
    split
    · rename_i hj
      have key : ∀ (us : List Value) (cs : List Value) (off : Nat), j < off → (lay cs off us)[j]? = cs[j]? := by
        intro us
        induction us with
        | nil => intro cs off _; rfl
        | cons u us ih =>
          intro cs off ho
          rw [lay, ih _ _ (by omega), List.getElem?_set_ne (by omega)]
      exact key _ _ _ hj
    · rfl

theorem stpE0 {ops : Array Oper} {Q : Exit → Act → World → Prop} {a : Act} {o : Oper} {rest : List Oper} {post : Value → World → Prop} (F : Fr a n l) (h : FiresE P o n l w post) (hw : wnt ops l o = some true) (hd : o.dst = none)
    (k : ∀ v w' a', post v w' → Fr a' n l → wpList P ops Q rest a' w') : wpList P ops Q (o :: rest) a w := by
  unfold wpList
  rw [if_pos (F.wanted hw)]
  refine .inl ?_
  unfold Oper.wp
  obtain ⟨v, w', h1, h2⟩ := h a F
  rw [h1, Oper.upon_value, hd]
  exact k _ _ _ h2 F
theorem run_eqNil {t el : TypeId} {A : Option Addr} {m c : Nat} (hs : P.underlying t = some (.slice el)) (w : World) : (Op.equal t (.slice A m c) (.slice none 0 0)).run P w = .ok A.isNone w := by
  have h : ∀ d, (Op.equalIn (d + 1) t (.slice A m c) (.slice none 0 0)).run P w = .ok A.isNone w := fun d => by
    cases A <;> simp [Op.equalIn, run_underlying hs]
  obtain ⟨d, hd⟩ : ∃ d, Op.maxDepth = d + 1 := ⟨9999, rfl⟩
  unfold Op.equal
  rw [hd]
  exact h d
theorem f_eqNil {x : Operand} {d t u u2 p e g el} {A : Option Addr} {m c : Nat} (hx : evl l x = some (.slice A m c)) (hs : P.underlying t = some (.slice el)) : Fires P ⟨d, .binOp .eql t x (.const (.slice none 0 0)) u2, u, p, e, g⟩ n l w (.bool A.isNone) w := fun a F => by
  have h0 : a.eval (.const (.slice none 0 0)) = .slice none 0 0 := rfl
  simp only [execOp, F.eval hx, h0]
  simp [eqGuard, binOp, run_eqNil hs]
/-- A row just made, with nothing in it. -/
theorem Own.of_new {w1 : World} {base e sz g : Nat} (h : New w1 e [] g w) (hb : base ≤ w1.heap.size) : Own w base e sz (some ⟨g, 0, none⟩) 0 [] :=
  Own.shuts (by have := h.num; omega) h.blk (Nat.zero_le _) (by simp) (by simp) (by simp) (by simp)
end
end Go.Proofs.Ytkbngaollbmcbaa.KK

namespace Go.Proofs.Ytkbngaollbmcbaa.KK
open Go Go.RowKit
section
variable {P : Program} {n : Nat} {l : List (Nat × Value)} {w : World}
theorem run_loadVarN {ty : TypeId} {ad : Addr} {vs : Array Value} {sz : Nat} (ht : AggIs P ty true) (hz : SizeIs P ty sz) (hc : RdAt w ad sz (.agg vs)) : (loadVar ty ad).run P w = .ok (.agg vs) w := by
  obtain ⟨h1, h2⟩ := hc
  simp only [Value.cells] at h1 h2
  have hr := run_loadCellsFrom (P := P) (w := w) ad vs.toList sz 0 #[] (by simpa using h1.symm) (by simpa using h2)
  simp [loadVar, ht w, hz w, loadCells, hr]
/-- What a result reads. -/
def RvOk (P : Program) (w : World) (l : List (Nat × Value)) : ResultVar → Value → Prop
  | .tmp t, v => lk l t = some v
  | .cell t ty, v => ∃ ad, lk l t = some (.pointer (some ad)) ∧ (loadVar ty ad).run P w = .ok v w
def rvRun (tmps : Array Value) : ResultVar → Sem Value
  | .tmp t => pure (tmps.getD t undef)
  | .cell a t => do loadVar t (← asAddr (tmps.getD a undef))
theorem rv_run {a : Act} (F : Fr a n l) {r : ResultVar} {v : Value} (h : RvOk P w l r v) : (rvRun a.tmps r).run P w = .ok v w := by
  cases r with
  | tmp t => unfold RvOk at h; simp [rvRun, F.look _ _ h]
  | cell t ty => obtain ⟨ad, h1, h2⟩ := h; simp [rvRun, F.look _ _ h1, asAddr, h2]
theorem retR1 {fn : Func} {post : Value → World → Prop} {a : Act} {r : ResultVar} {v : Value} (F : Fr a n l) (hr : fn.results = #[r]) (h0 : RvOk P w l r v) (h : post v w) : bodyPost P fn (Ret post) .ret a w := by
  have e := rv_run F h0
  refine ⟨F.nil, v, ?_, h⟩
  cases r <;> simp [results, hr, rvRun] at e ⊢ <;> simp [e]
theorem retR3 {fn : Func} {post : Value → World → Prop} {a : Act} {r s t : ResultVar} {v x y : Value} (F : Fr a n l) (hr : fn.results = #[r, s, t]) (h0 : RvOk P w l r v) (h1 : RvOk P w l s x) (h2 : RvOk P w l t y) (h : post (.tuple #[v, x, y]) w) : bodyPost P fn (Ret post) .ret a w := by
  have e0 := rv_run F h0
  have e1 := rv_run F h1
  have e2 := rv_run F h2
  refine ⟨F.nil, _, ?_, h⟩
  have key : (results fn a.tmps).run P w = ((do
      let v0 ← rvRun a.tmps r
      let v1 ← rvRun a.tmps s
      let v2 ← rvRun a.tmps t
      pure (Value.tuple #[v0, v1, v2])) : Sem Value).run P w := by
    cases r <;> cases s <;> cases t <;> simp [results, hr, rvRun]
  rw [key]
  simp [e0, e1, e2]
/-- A store among what may move. -/
theorem gS {L : List Oper} {B C : World → Prop} {M : List Nat} {N : Nat} {κ : Nat → Kg} {Q : Exit → Act → World → Prop} {tl r : List Nat} {i : Nat} {a : Act} {gb : Nat} {T : TypeId} {cs : List Value} (F : Fr a n l) (hk : κ i = .big) (hM : gb ∈ M) (D : World → Prop)
    (h : ∀ w, C w → FiresW P (nth L i) n l w (Wr w gb T cs)) (hD : Gd N D) (hDB : ∀ w, D w → B w) (hc : ∀ w w', C w → Wr w gb T cs w' → D w') (hw : wnt L.toArray l (nth L i) = some true) (hd : (nth L i).dst = none)
    (k : ∀ a', Fr a' n l → wpG P L B M N κ Q tl r D a') : wpG P L B M N κ Q tl (i :: r) C a := by
  unfold wpG gOp1
  rw [if_pos (F.wanted hw)]
  simp only [hk]
  refine ⟨Unit, (), fun _ => undef, fun _ => D, fun _ => hD, fun _ => hDB, fun w hC => ?_, fun x => ?_⟩
  · obtain ⟨w', h1, h2⟩ := h w hC a F
    unfold bigAt
    rw [h1]
    exact ⟨h2.kp.mono (by intro x hx _; simp at hx; rw [hx]; exact hM), (), rfl, hc w w' hC h2⟩
  · rw [hd]
    exact k _ F
/-- A store that nothing but what is pure may pass. -/
theorem gO {L : List Oper} {B C : World → Prop} {M : List Nat} {N : Nat} {κ : Nat → Kg} {Q : Exit → Act → World → Prop} {tl r : List Nat} {i : Nat} {a : Act} {gb : Nat} {T : TypeId} {cs : List Value} (F : Fr a n l) (hk : κ i = .own) (D : World → Prop)
    (h : ∀ w, C w → FiresW P (nth L i) n l w (Wr w gb T cs)) (hD : Gd N D) (hc : ∀ w w', C w → Wr w gb T cs w' → D w') (hw : wnt L.toArray l (nth L i) = some true) (hd : (nth L i).dst = none)
    (k : ∀ a', Fr a' n l → wpG P L B M N κ Q tl r D a') : wpG P L B M N κ Q tl (i :: r) C a := by
  unfold wpG gOp1
  rw [if_pos (F.wanted hw)]
  simp only [hk]
  refine ⟨Unit, (), fun _ => undef, fun _ => D, fun _ => hD, fun w hC => ?_, fun x => ?_⟩
  · obtain ⟨w', h1, h2⟩ := h w hC a F
    unfold bigAt
    rw [h1]
    exact ⟨(), rfl, hc w w' hC h2⟩
  · rw [hd]
    exact k _ F
/-- What has an effect and may be passed by what makes a block. -/
theorem gE {L : List Oper} {B C : World → Prop} {M : List Nat} {N : Nat} {κ : Nat → Kg} {Q : Exit → Act → World → Prop} {tl r : List Nat} {i : Nat} {a : Act} {d : Nat} {ι : Type} (F : Fr a n l) (hk : κ i = .big) (x0 : ι) (val : ι → Value) (T : ι → World → Prop)
    (h : ∀ w, C w → FiresE P (nth L i) n l w (fun u w' => Kp M w w' ∧ ∃ x, u = val x ∧ T x w')) (hT : ∀ x, Gd N (T x)) (hTB : ∀ x w, T x w → B w) (hw : wnt L.toArray l (nth L i) = some true) (hd : (nth L i).dst = some d) (hn : Nat.blt d n = true)
    (k : ∀ x a', Fr a' n ((d, val x) :: l) → wpG P L B M N κ Q tl r (T x) a') : wpG P L B M N κ Q tl (i :: r) C a := by
  unfold wpG gOp1
  rw [if_pos (F.wanted hw)]
  simp only [hk]
  refine ⟨ι, x0, val, T, hT, hTB, fun w hC => ?_, fun x => ?_⟩
  · obtain ⟨v, w', h1, h2⟩ := h w hC a F
    unfold bigAt
    rw [h1]
    exact h2
  · rw [hd]
    exact k x _ (F.put hn _)
/-- As c_drawG; the class at the start may say more than the base class. -/
theorem c_drawH {Q : Exit → Act → World → Prop} {id : Nat} {L : List Oper} {a : Act} (pre tl : List Nat) (κ : Nat → Kg) (M : List Nat) (N : Nat) (hMN : ∀ x ∈ M, x < N) (hm : P.follows .mixedOrders = true) (hB : lexG L.toArray κ pre tl = true) (B C : World → Prop) (hG : Gd N C) (hC : C w.drew)
    (h : wpG P L B M N κ Q tl pre C a) : (Code.region id L.toArray true).wp P Q a w := by
  simp only [lexG, Bool.and_eq_true, beq_iff_eq] at hB
  have hcl : Cl .any L.toArray (Array.replicate L.toArray.size false) := fun j oj _ hl => by
    have h0 : (Array.replicate L.toArray.size false).getD j false = false := by
      rw [Array.getD_eq_getD_getElem?, Array.getElem?_replicate]; split <;> rfl
    rw [h0] at hl; cases hl
  have := wpAnyG_lex hMN (P := P) (Q := Q) (md := .any) (B := B) (M := M) (T := ancs .any L []) (fun i j hj h => ancs_rch hj h) (N := N) (κ := κ) (pre := pre) hB.1.1 pre (Array.replicate L.toArray.size false) C a hG hcl hB.2 h
  rw [hB.1.2] at this
  exact wp_region_any hm (wpAny_of_G (κ := κ) (pre := pre) _ _ C a _ hG hC this)
theorem FiresE.mono {o : Oper} {post post' : Value → World → Prop} (h : FiresE P o n l w post) (hp : ∀ v w', post v w' → post' v w') : FiresE P o n l w post' := fun a F => by
  obtain ⟨v, w', h1, h2⟩ := h a F
  exact ⟨v, w', h1, hp _ _ h2⟩
/-- What is known in one case besides. -/
theorem FiresE.andp {o : Oper} {post : Value → World → Prop} {q : Prop} {u : Value} (h : FiresE P o n l w post) (h2 : q → Fires P o n l w u w) : FiresE P o n l w (fun v w' => post v w' ∧ (q → v = u ∧ w' = w)) := fun a F => by
  obtain ⟨v, w', h1, h3⟩ := h a F
  refine ⟨v, w', h1, h3, fun hq => ?_⟩
  have := (h2 hq a F).symm.trans h1
  simp only [Result.ok.injEq, Next.value.injEq] at this
  exact ⟨this.1.symm, this.2.symm⟩
/-- append of nothing. -/
theorem f_append0 {s x : Operand} {d t p e g} {ty el sz k c d2 : Nat} {A B : Option Addr} (hs : evl l s = some (.slice A k c)) (hx : evl l x = some (.slice B 0 d2)) (ht : P.underlying ty = some (.slice el)) (hz : SizeIs P el sz) (hkc : k ≤ c) :
    Fires P ⟨d, .call { callee := .builtin .append, args := #[s, x], argTypes := #[ty, ty] }, t, p, e, g⟩ n l w (.slice A k c) w := fun a F => by
  have hs0 : ∀ ad : Addr, (storeCells ad []).run P w = .ok () w := fun ad => by simp [storeCells, Sem.run]
  have hl0 : ∀ ad : Addr, (loadCellsFrom ad 0 0 #[]).run P w = .ok #[] w := fun ad => by simp [loadCellsFrom, Sem.run]
  cases A <;> cases B <;> simp [execOp, resolve, invoke, builtin, F.eval hs, F.eval hx, Builtin.append_, run_underlying ht, hz w, Builtin.lenOf, Builtin.firstCells, loadCells, hkc, hs0, hl0]
end
end Go.Proofs.Ytkbngaollbmcbaa.KK
