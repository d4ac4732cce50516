/- What the proof leans on: rules for a walk through the code, walks of functions, and plain laws. No condition. -/
import Derived.Test.YtkbngaollbmcbaaKa
import Derived.Deep.OwnRows
import Derived.Sort.LotA

namespace Go.Proofs.Ytkbngaollbmcbaa.KK
open Go Go.RowKit
def upd {α : Type} (s : Nat → α) (i : Nat) (v : α) : Nat → α := fun j => if j = i then v else s j
def ckc (s : Nat → Int) (t : Nat → Bool) : List Value := (List.range 30).map (fun i => .int .i64 (s i)) ++ (List.range 180).map (fun i => .bool (t i))
theorem ckc_s {s : Nat → Int} {t : Nat → Bool} {i : Nat} (h : i < 30) : (ckc s t)[i * 1]? = some (.int .i64 (s i)) := by
  unfold ckc
  rw [Nat.mul_one, List.getElem?_append_left (by simpa using h)]
  simp [h]
theorem ckc_t {s : Nat → Int} {t : Nat → Bool} {i j : Nat} (h : i < 30) (hj : j < 6) : (ckc s t)[30 + i * 6 + j * 1]? = some (.bool (t (i * 6 + j))) := by
  unfold ckc
  rw [List.getElem?_append_right (by simp; omega)]
  have : 30 + i * 6 + j * 1 - ((List.range 30).map (fun i => Value.int .i64 (s i))).length = i * 6 + j := by simp; omega
  rw [this]
  have h2 : i * 6 + j < 180 := by omega
  simp [h2]
theorem ckc_len (s : Nat → Int) (t : Nat → Bool) : (ckc s t).length = 210 := by simp [ckc]
theorem ckc_lt_s {s : Nat → Int} {t : Nat → Bool} {i : Nat} {v : Value} (h : i < 30) : i * 1 + [v].length ≤ (ckc s t).length := by rw [ckc_len]; simp; omega
theorem ckc_lt_t {s : Nat → Int} {t : Nat → Bool} {i j : Nat} {v : Value} (h : i < 30) (hj : j < 6) : 30 + i * 6 + j * 1 + [v].length ≤ (ckc s t).length := by rw [ckc_len]; simp; omega
theorem ckc_put_s {s : Nat → Int} {t : Nat → Bool} {i : Nat} {x : Int} (h : i < 30) : lay (ckc s t) (i * 1) [.int .i64 x] = ckc (upd s i x) t := by
  simp only [lay, Nat.mul_one]
  apply List.ext_getElem?
  intro k
  rw [List.getElem?_set, ckc_len]
  unfold ckc
  by_cases hk : k < 30
  · rw [List.getElem?_append_left (by simpa using hk), List.getElem?_append_left (by simpa using hk)]
    by_cases e : i = k
    · subst e; simp [upd, h]; omega
    · have e' : ¬ k = i := fun x => e x.symm
      simp [upd, e, e', hk]
  · rw [List.getElem?_append_right (by simp; omega), List.getElem?_append_right (by simp; omega)]
    have e : ¬ i = k := by omega
    simp [e]
theorem ckc_put_t {s : Nat → Int} {t : Nat → Bool} {i j : Nat} {x : Bool} (h : i < 30) (hj : j < 6) : lay (ckc s t) (30 + i * 6 + j * 1) [.bool x] = ckc s (upd t (i * 6 + j) x) := by
  simp only [lay, Nat.mul_one]
  apply List.ext_getElem?
  intro k
  rw [List.getElem?_set, ckc_len]
  unfold ckc
  by_cases hk : k < 30
  · have e : ¬ 30 + i * 6 + j = k := by omega
    rw [List.getElem?_append_left (by simpa using hk), List.getElem?_append_left (by simpa using hk)]
    simp [e]
  · rw [List.getElem?_append_right (by simp; omega), List.getElem?_append_right (by simp; omega)]
    by_cases e : 30 + i * 6 + j = k
    · subst e
      have h1 : 30 + i * 6 + j - 30 = i * 6 + j := by omega
      have h2 : i * 6 + j < 180 := by omega
      have h3 : 30 + i * 6 + j < 210 := by omega
      simp [upd, h1, h2, h3]
    · by_cases hk2 : k - 30 < 180
      · have e' : ¬ k - 30 = i * 6 + j := by omega
        simp [upd, e, e', hk2]
      · simp [e, hk2]
def evStep (s : Nat → Int) (t : Nat → Bool) (p k m : Int) : Int × ((Nat → Int) × (Nat → Bool)) :=
  if ¬ (0 ≤ p ∧ p ≤ 5) then (1, s, t) else if ¬ (0 ≤ m ∧ m ≤ 29) then (1, s, t) else
  if k = 1 then (if m = 0 then (0, s, t) else (4, s, t)) else
  if k = 2 then (if 0 < s m.toNat then (4, s, t) else (0, upd s m.toNat (p + 1), t)) else
  if k = 3 then (if s m.toNat = 0 then (4, s, t) else if s m.toNat = p + 1 then (4, s, t) else if t (m.toNat * 6 + p.toNat) = true then (4, s, t) else (0, s, upd t (m.toNat * 6 + p.toNat) true)) else (4, s, t)
/-- An event. -/
structure Ev where
  proc : Int
  kind : Int
  msg : Int
  deriving Inhabited
abbrev Ev.enc (e : Ev) : Value := .agg #[.int .i64 e.proc, .int .i64 e.kind, .int .i64 e.msg]
abbrev evv (h : List Ev) : Nat → Value := fun i => (h.getD i default).enc

def ckGo : List Ev → (Nat → Int) → (Nat → Bool) → Int
  | [], _, _ => 0
  | e :: r, s, t => if (evStep s t e.proc e.kind e.msg).1 = 0 then ckGo r (evStep s t e.proc e.kind e.msg).2.1 (evStep s t e.proc e.kind e.msg).2.2 else (evStep s t e.proc e.kind e.msg).1
def z0 : Nat → Int := fun _ => 0
def zb : Nat → Bool := fun _ => false
def checkF (h : List Ev) : Int := if 60 < h.length then 2 else ckGo h z0 zb
theorem drop_get {α : Type} [Inhabited α] (h : List α) (k : Nat) (hk : k < h.length) : h.drop k = h.getD k default :: h.drop (k + 1) := by
  rw [List.drop_eq_getElem_cons hk]
  simp [hk]
theorem ckGo_step {h : List Ev} {k : Nat} (hk : k < h.length) (s : Nat → Int) (t : Nat → Bool) :
    ckGo (h.drop k) s t = if (evStep s t (h.getD k default).proc (h.getD k default).kind (h.getD k default).msg).1 = 0 then
      ckGo (h.drop (k + 1)) (evStep s t (h.getD k default).proc (h.getD k default).kind (h.getD k default).msg).2.1 (evStep s t (h.getD k default).proc (h.getD k default).kind (h.getD k default).msg).2.2
      else (evStep s t (h.getD k default).proc (h.getD k default).kind (h.getD k default).msg).1 := by
  rw [drop_get h k hk]; rfl
theorem ckGo_next {h : List Ev} {k : Nat} {s : Nat → Int} {t : Nat → Bool} {r : Int} (hk : k < h.length) (hg : ckGo (h.drop k) s t = r)
    (h0 : (evStep s t (h.getD k default).proc (h.getD k default).kind (h.getD k default).msg).1 = 0) :
    ckGo (h.drop (k + 1)) (evStep s t (h.getD k default).proc (h.getD k default).kind (h.getD k default).msg).2.1 (evStep s t (h.getD k default).proc (h.getD k default).kind (h.getD k default).msg).2.2 = r := by
  rw [ckGo_step hk, if_pos h0] at hg; exact hg
theorem ckGo_stop {h : List Ev} {k : Nat} {s : Nat → Int} {t : Nat → Bool} {r : Int} (hk : k < h.length) (hg : ckGo (h.drop k) s t = r)
    (h0 : ¬ (evStep s t (h.getD k default).proc (h.getD k default).kind (h.getD k default).msg).1 = 0) :
    (evStep s t (h.getD k default).proc (h.getD k default).kind (h.getD k default).msg).1 = r := by
  rw [ckGo_step hk, if_neg h0] at hg; exact hg
theorem ckGo_end {h : List Ev} {k : Nat} {s : Nat → Int} {t : Nat → Bool} {r : Int} (hk : ¬ k < h.length) (hg : ckGo (h.drop k) s t = r) : 0 = r := by
  rw [List.drop_eq_nil_of_le (by omega)] at hg; exact hg
/-! arrays of ints -/
def arrI (n : Nat) (f : Nat → Int) : List Value := (List.range n).map fun i => .int .i64 (f i)
theorem arrI_len (n : Nat) (f : Nat → Int) : (arrI n f).length = n := by simp [arrI]
theorem arrI_get {n : Nat} {f : Nat → Int} {i : Nat} (h : i < n) : (arrI n f)[i * 1]? = some (.int .i64 (f i)) := by simp [arrI, h]
theorem arrI_lt {n : Nat} {f : Nat → Int} {i : Nat} {v : Value} (h : i < n) : i * 1 + [v].length ≤ (arrI n f).length := by rw [arrI_len]; simp; omega
theorem arrI_put {n : Nat} {f : Nat → Int} {i : Nat} {x : Int} (h : i < n) : lay (arrI n f) (i * 1) [.int .i64 x] = arrI n (upd f i x) := by
  simp only [lay, Nat.mul_one]
  apply List.ext_getElem?
  intro k
  rw [List.getElem?_set, arrI_len]
  unfold arrI
  by_cases e : i = k
  · subst e; simp [upd, h]
  · have e' : ¬ k = i := fun x => e x.symm
    by_cases hk : k < n <;> simp [upd, e, e', hk]

abbrev vi : Int → Value := Value.int .i64
def stNew (e : Ev) (la se : Nat → Int) : Int := (if e.kind = 3 then max (la e.proc.toNat) (se e.msg.toNat) else la e.proc.toNat) + 1
def stGo : List Ev → (Nat → Int) → (Nat → Int) → List Int
  | [], _, _ => []
  | e :: r, la, se => stNew e la se :: stGo r (upd la e.proc.toNat (stNew e la se)) (if e.kind = 2 then upd se e.msg.toNat (stNew e la se) else se)
def stF (h : List Ev) : List Int := if checkF h = 0 then stGo h z0 z0 else []

theorem ckGo_ok : ∀ (h : List Ev) (s : Nat → Int) (t : Nat → Bool), ckGo h s t = 0 → ∀ e ∈ h, 0 ≤ e.proc ∧ e.proc ≤ 5 ∧ 0 ≤ e.msg ∧ e.msg ≤ 29
  | [], _, _, _, _, he => by simp at he
  | e :: r, s, t, hc, x, hx => by
    simp only [ckGo] at hc
    split at hc
    · rename_i h0
      rcases List.mem_cons.1 hx with rfl | hx
      · unfold evStep at h0
        split at h0
        · simp at h0
        · split at h0
          · simp at h0
          · omega
      · exact ckGo_ok r _ _ hc x hx
    · rename_i h0; exact absurd hc h0
theorem checkF_ok {h : List Ev} (hc : checkF h = 0) : h.length ≤ 60 ∧ ∀ k, k < h.length → 0 ≤ (h.getD k default).proc ∧ (h.getD k default).proc ≤ 5 ∧ 0 ≤ (h.getD k default).msg ∧ (h.getD k default).msg ≤ 29 := by
  unfold checkF at hc
  split at hc
  · simp at hc
  · refine ⟨by omega, fun k hk => ckGo_ok h _ _ hc _ ?_⟩
    simp [hk]
theorem upd_bd {la : Nat → Int} {k : Nat} {x : Int} {i : Nat} (h : ∀ i, 0 ≤ la i ∧ la i ≤ k) (hx : 0 ≤ x ∧ x ≤ (k : Int) + 1) : ∀ j, 0 ≤ upd la i x j ∧ upd la i x j ≤ ((k + 1 : Nat) : Int) := by
  intro j
  unfold upd
  split
  · omega
  · have := h j; omega
theorem bd_next {la : Nat → Int} {k : Nat} (h : ∀ i, 0 ≤ la i ∧ la i ≤ k) : ∀ j, 0 ≤ la j ∧ la j ≤ ((k + 1 : Nat) : Int) := fun j => by have := h j; omega
theorem stGo_next {h : List Ev} {k : Nat} {os r : List Int} {la se : Nat → Int} (hk : k < h.length) (hg : os ++ stGo (h.drop k) la se = r) {x : Int} {se' : Nat → Int}
    (hx : stNew (h.getD k default) la se = x) (hs : (if (h.getD k default).kind = 2 then upd se (h.getD k default).msg.toNat x else se) = se') :
    (os ++ [x]) ++ stGo (h.drop (k + 1)) (upd la (h.getD k default).proc.toNat x) se' = r := by
  subst hx; subst hs
  rw [drop_get h k hk] at hg
  rw [← hg]
  simp only [stGo, List.append_assoc, List.singleton_append]
theorem stGo_end {h : List Ev} {k : Nat} {os r : List Int} {la se : Nat → Int} (hk : ¬ k < h.length) (hg : os ++ stGo (h.drop k) la se = r) : os = r := by
  rw [List.drop_eq_nil_of_le (by omega)] at hg; simpa [stGo] using hg
end Go.Proofs.Ytkbngaollbmcbaa.KK

namespace Go.Proofs.Ytkbngaollbmcbaa.KK
open Go Go.RowKit

section
variable {P : Program} {n : Nat} {l : List (Nat × Value)} {w w' : World}

theorem f_makeSlice {ty el : TypeId} {x y : Operand} {d t p e g} {k k2 : IntKind} {m : Nat} {i : TypeInfo} {z : Value} (hx : evl l x = some (.int k (m : Int))) (hy : evl l y = some (.int k2 (m : Int))) (ht : P.underlying ty = some (.slice el)) (hi : P.info? el = some i)
    (hz : i.zero = some z) (hs : i.size = 1) (hz1 : z.cells = #[z]) (hb : i.bytes * m ≤ 281474976710656) (h63 : m ≤ 9223372036854775807) :
    FiresE P ⟨d, .makeSlice ty x y, t, p, e, g⟩ n l w (fun v w' => ∃ g, v = .slice (some ⟨g, 0, none⟩) m m ∧ New w el (List.replicate m z) g w') := fun a F => by
  refine ⟨_, _, ?_, w.heap.size, rfl, New.mk_ _ _ _⟩
  have hr := run_make_row (P := P) ty el i z ht hi hz hs hz1 k k2 m hb h63 w
  simp [execOp, F.eval hx, F.eval hy, hr]
  congr 2
  apply Array.toList_inj.1
  rw [toList_madeCells_one]; simp
end

/-! ### Rows of bools, and a table of them -/
def boolsL (n : Nat) (f : Nat → Bool) : List Value := (List.range n).map fun i => .bool (f i)
theorem boolsL_len (n : Nat) (f : Nat → Bool) : (boolsL n f).length = n := by simp [boolsL]
theorem boolsL_get {n : Nat} {f : Nat → Bool} {i : Nat} (h : i < n) : (boolsL n f)[i * 1]? = some (.bool (f i)) := by simp [boolsL, h]
theorem boolsL_put {n : Nat} {f : Nat → Bool} {i : Nat} {x : Bool} (h : i < n) : lay (boolsL n f) (i * 1) [.bool x] = boolsL n (upd f i x) := by
  simp only [lay, Nat.mul_one]
  apply List.ext_getElem?
  intro k
  rw [List.getElem?_set, boolsL_len]
  unfold boolsL
  by_cases e : i = k
  · subst e; simp [upd, h]
  · have e' : ¬ k = i := fun x => e x.symm
    by_cases hk : k < n <;> simp [upd, e, e', hk]
theorem boolsL_false (n : Nat) : List.replicate n (Value.bool false) = boolsL n (fun _ => false) := by
  apply List.ext_getElem?
  intro k
  unfold boolsL
  by_cases hk : k < n <;> simp [hk]

def tabL (n : Nat) (gr : Nat → Nat) (k : Nat) : List Value := (List.range n).map fun i => if i < k then .slice (some ⟨gr i, 0, none⟩) n n else .slice none 0 0
theorem tabL_len (n k : Nat) (gr : Nat → Nat) : (tabL n gr k).length = n := by simp [tabL]
theorem tabL_get {n k : Nat} {gr : Nat → Nat} {i : Nat} (h : i < n) (hk : i < k) : (tabL n gr k)[i * 1]? = some (.slice (some ⟨gr i, 0, none⟩) n n) := by simp [tabL, h, hk]
theorem tabL_nil (n : Nat) (gr : Nat → Nat) : List.replicate n (Value.slice none 0 0) = tabL n gr 0 := by
  apply List.ext_getElem?
  intro k
  unfold tabL
  by_cases hk : k < n <;> simp [hk]
theorem tabL_put {n k : Nat} {gr : Nat → Nat} {g : Nat} (h : k < n) : lay (tabL n gr k) (k * 1) [.slice (some ⟨g, 0, none⟩) n n] = tabL n (upd gr k g) (k + 1) := by
  simp only [lay, Nat.mul_one]
  apply List.ext_getElem?
  intro j
  rw [List.getElem?_set, tabL_len]
  unfold tabL
  by_cases e : k = j
  · subst e; simp [upd, h]
  · have e' : ¬ j = k := fun x => e x.symm
    by_cases hj : j < n
    · by_cases hjk : j < k
      · simp [upd, e, e', hj, hjk, show j < k + 1 from by omega]
      · simp [upd, e, e', hj, hjk, show ¬ j < k + 1 from by omega]
    · simp [e, hj]

/-- A table of n rows of n bools, of which k are made. -/
structure Mat (T U : TypeId) (w : World) (lo hi gm n : Nat) (gr : Nat → Nat) (k : Nat) (M : Nat → Nat → Bool) : Prop where
  tab : Blk w gm T (tabL n gr k)
  row : ∀ i, i < k → Blk w (gr i) U (boolsL n (M i))
  inj : ∀ i j, i < k → j < k → gr i = gr j → i = j
  ne : ∀ i, i < k → gr i ≠ gm
  bd : lo ≤ gm ∧ gm < hi
  bdr : ∀ i, i < k → lo ≤ gr i ∧ gr i < hi

section
variable {T U : TypeId} {w w' : World} {lo hi gm n k : Nat} {gr : Nat → Nat} {M : Nat → Nat → Bool} {B : List Nat}
theorem Mat.keep (h : Mat T U w lo hi gm n gr k M) (kp : Kp B w w') (hm : ∀ g ∈ B, g < lo ∨ hi ≤ g) : Mat T U w' lo hi gm n gr k M :=
  ⟨h.tab.keep kp (fun hx => by have := h.bd; rcases hm _ hx with e | e <;> omega), fun i hi' => (h.row i hi').keep kp (fun hx => by have := h.bdr i hi'; rcases hm _ hx with e | e <;> omega), h.inj, h.ne, h.bd, h.bdr⟩
theorem Mat.more {lo' hi' : Nat} (h : Mat T U w lo hi gm n gr k M) (h1 : lo' ≤ lo) (h2 : hi ≤ hi') : Mat T U w lo' hi' gm n gr k M :=
  ⟨h.tab, h.row, h.inj, h.ne, by have := h.bd; omega, fun i hi => by have := h.bdr i hi; omega⟩
theorem Mat.start (h : Blk w gm T (List.replicate n (.slice none 0 0))) (h1 : lo ≤ gm) (gr : Nat → Nat) (M : Nat → Nat → Bool) : Mat T U w lo w.heap.size gm n gr 0 M :=
  ⟨(tabL_nil n gr) ▸ h, fun i hi => by omega, fun i j hi => by omega, fun i hi => by omega, ⟨h1, h.lt⟩, fun i hi => by omega⟩
/-- A row more. -/
theorem Mat.grow {g : Nat} (h : Mat T U w lo hi gm n gr k M) (hr : Blk w' g U (List.replicate n (.bool false))) (hg : hi ≤ g) (hlo : lo ≤ hi) (kp : Kp [gm] w w') (hb : Blk w' gm T (lay (tabL n gr k) (k * 1) [.slice (some ⟨g, 0, none⟩) n n])) (hk : k < n) :
    ∃ gr' M', Mat T U w' lo w'.heap.size gm n gr' (k + 1) M' ∧ gr' k = g ∧ (∀ i, i < k → M' i = M i) ∧ M' k = fun _ => false := by
  have hbd := h.bd
  have hs := kp.size
  have hlt := hr.lt
  refine ⟨upd gr k g, upd M k (fun _ => false), ⟨(tabL_put hk) ▸ hb, fun i hi' => ?_, fun i j hi' hj' he => ?_, fun i hi' => ?_, by omega, fun i hi' => ?_⟩, by simp [upd], fun i hi' => ?_, by simp [upd]⟩
  · by_cases e : i = k
    · subst e; simp only [upd, if_true]; rw [boolsL_false] at hr; exact hr
    · simp only [upd, if_neg e]; exact (h.row i (by omega)).keep kp (by simpa using h.ne i (by omega))
  · have b1 : ∀ i, i < k → gr i < g := fun i hi' => by have := h.bdr i hi'; omega
    unfold upd at he
    by_cases e1 : i = k <;> by_cases e2 : j = k <;> simp only [e1, e2, if_true, if_false] at he ⊢
    · have := b1 j (by omega); omega
    · have := b1 i (by omega); omega
    · exact h.inj i j (by omega) (by omega) he
  · unfold upd
    by_cases e : i = k
    · rw [if_pos e]; omega
    · rw [if_neg e]; exact h.ne i (by omega)
  · unfold upd
    by_cases e : i = k
    · rw [if_pos e]; omega
    · rw [if_neg e]; have := h.bdr i (by omega); omega
  · unfold upd; rw [if_neg (by omega)]
theorem Mat.put {i j : Nat} {x : Bool} (h : Mat T U w lo hi gm n gr k M) (hik : i < k) (hj : j < n) (kp : Kp [gr i] w w') (hb : Blk w' (gr i) U (lay (boolsL n (M i)) (j * 1) [.bool x])) : Mat T U w' lo hi gm n gr k (upd M i (upd (M i) j x)) := by
  refine ⟨h.tab.keep kp (by have := h.ne i hik; simp; exact fun e => this e.symm), fun q hq => ?_, h.inj, h.ne, h.bd, h.bdr⟩
  by_cases e : q = i
  · subst e; simp only [upd, if_true]; rw [boolsL_put hj] at hb; exact hb
  · simp only [upd, if_neg e]; exact (h.row q hq).keep kp (by simp; exact fun h2 => e (h.inj q i hq hik h2))
end
end Go.Proofs.Ytkbngaollbmcbaa.KK

namespace Go.Proofs.Ytkbngaollbmcbaa.KK
open Go Go.RowKit Go.Sort

/-! ### A row of ints that is sorted in place -/
def rowI (d : Array Int) (post : List Value) : List Value := d.toList.map vi ++ post
theorem rowI_get {d : Array Int} {post : List Value} {i : Nat} (h : i < d.size) : (rowI d post)[i * 1]? = some (.int .i64 d[i]!) := by
  unfold rowI
  rw [Nat.mul_one, List.getElem?_append_left (by simpa using h)]
  simp [h]
theorem rowI_lt {d : Array Int} {post : List Value} {i : Nat} {v : Value} (h : i < d.size) : i * 1 + [v].length ≤ (rowI d post).length := by simp [rowI]; omega
theorem rowI_put {d : Array Int} {post : List Value} {i : Nat} {x : Int} (h : i < d.size) : lay (rowI d post) (i * 1) [.int .i64 x] = rowI (d.setIfInBounds i x) post := by
  simp only [lay, Nat.mul_one, rowI]
  rw [List.set_append_left _ _ (by simpa using h)]
  congr 1
  rw [Array.toList_setIfInBounds, List.map_set]

def ltC (cf : Int → Int → Int) (x y : Int) : Bool := decide (cf x y < 0)
def cmpI (x y : Int) : Int := if x < y then -1 else if y < x then 1 else 0
def orF : List Int → Int
  | [] => 0
  | x :: r => if x = 0 then orF r else x

abbrev ivv (l : List Int) : Nat → Value := fun i => .int .i64 (l.getD i 0)
theorem drop0 (l : List Int) (k : Nat) (hk : k < l.length) : l.drop k = l.getD k 0 :: l.drop (k + 1) := by
  rw [List.drop_eq_getElem_cons hk]; simp [hk]
theorem orF_next {l : List Int} {k : Nat} {r : Int} (hk : k < l.length) (h0 : l.getD k 0 = 0) (hg : orF (l.drop k) = r) : orF (l.drop (k + 1)) = r := by
  rw [drop0 l k hk] at hg; rw [orF, if_pos h0] at hg; exact hg
theorem orF_stop {l : List Int} {k : Nat} (hk : k < l.length) (h0 : ¬ l.getD k 0 = 0) : orF (l.drop k) = l.getD k 0 := by
  rw [drop0 l k hk, orF, if_neg h0]

theorem size_swp (d : Array Int) (i j : Nat) : (swp d i j).size = d.size := by simp [swp]
theorem get_swp (d : Array Int) (i j k : Nat) (hi : i < d.size) (hj : j < d.size) : (swp d i j)[k]! = if k = j then d[i]! else if k = i then d[j]! else d[k]! := by
  unfold swp
  simp only [Array.getElem!_eq_getD, Array.getD_eq_getD_getElem?, Array.getElem?_setIfInBounds, Array.size_setIfInBounds]
  by_cases h1 : k = j
  · subst h1; simp [hj, hi]
  · have h1' : ¬ j = k := fun e => h1 e.symm
    by_cases h2 : k = i
    · subst h2; simp [h1, h1', hi]
    · have h2' : ¬ i = k := fun e => h2 e.symm
      simp [h1, h1', h2, h2']
theorem get_set (d : Array Int) (i k : Nat) (x : Int) (hi : i < d.size) : (d.setIfInBounds i x)[k]! = if k = i then x else d[k]! := by
  simp only [Array.getElem!_eq_getD, Array.getD_eq_getD_getElem?, Array.getElem?_setIfInBounds]
  by_cases h : k = i
  · subst h; simp [hi]
  · have h' : ¬ i = k := fun e => h e.symm
    simp [h, h']

section
variable {lt : Int → Int → Bool}
theorem insI_go (a j : Nat) (d : Array Int) (hj : a < j) (hl : lt d[j]! d[j - 1]! = true) : insInner lt a j d = insInner lt a (j - 1) (swp d j (j - 1)) := by
  obtain ⟨j, rfl⟩ : ∃ q, j = q + 1 := ⟨j - 1, by omega⟩
  rw [insInner, if_pos (by simp at hl ⊢; exact ⟨hj, hl⟩)]; rfl
theorem insI_stop (a j : Nat) (d : Array Int) (h : j ≤ a ∨ lt d[j]! d[j - 1]! = false) : insInner lt a j d = d := by
  cases j with
  | zero => rfl
  | succ j =>
    rw [insInner, if_neg]
    rcases h with h | h
    · simp; intro h2; omega
    · simp at h ⊢; intro _; exact h
theorem insO_go (a b i : Nat) (d : Array Int) (h : i < b) : insOuter lt a b i d = insOuter lt a b (i + 1) (insInner lt a i d) := by rw [insOuter, if_pos h]
theorem insO_stop (a b i : Nat) (d : Array Int) (h : ¬ i < b) : insOuter lt a b i d = d := by rw [insOuter, if_neg h]
end

/-- d' is d, the two rows of n from a and from b exchanged. -/
def SwR (d d' : Array Int) (a b n : Nat) : Prop := d'.size = d.size ∧ ∀ k, d'[k]! = if a ≤ k ∧ k < a + n then d[k - a + b]! else if b ≤ k ∧ k < b + n then d[k - b + a]! else d[k]!
/-- d' is d, the rows [a, m) and [m, b) having changed places. -/
def Rot (d d' : Array Int) (a m b : Nat) : Prop := d'.size = d.size ∧ ∀ k, d'[k]! = if a ≤ k ∧ k < a + (b - m) then d[k - a + m]! else if a + (b - m) ≤ k ∧ k < b then d[k - (b - m)]! else d[k]!

theorem SwR.nil (d : Array Int) (a b : Nat) : SwR d d a b 0 := ⟨rfl, fun k => by rw [if_neg (by omega), if_neg (by omega)]⟩
theorem SwR.step {d d' : Array Int} {a b i : Nat} (h : SwR d d' a b i) (hab : a + i < b ∨ b + i < a) (ha : a + i < d.size) (hb : b + i < d.size) : SwR d (swp d' (a + i) (b + i)) a b (i + 1) := by
  obtain ⟨h1, h2⟩ := h
  refine ⟨by rw [size_swp, h1], fun k => ?_⟩
  rw [get_swp _ _ _ _ (by omega) (by omega), h2, h2, h2]
  (repeat' split) <;> first | (exfalso; omega) | rfl | (congr 1; omega)
theorem Rot.same {d : Array Int} {m i : Nat} {d' : Array Int} (h : SwR d d' (m - i) m i) (hi : i ≤ m) : Rot d d' (m - i) m (m + i) := by
  obtain ⟨h1, h2⟩ := h
  refine ⟨h1, fun k => ?_⟩
  rw [h2]
  (repeat' split) <;> first | (exfalso; omega) | rfl | (congr 1; omega)
theorem Rot.big {d d1 d' : Array Int} {m i j : Nat} (h : SwR d d1 (m - i) m j) (hij : j < i) (hi : i ≤ m) (hr : Rot d1 d' (m - (i - j)) m (m + j)) : Rot d d' (m - i) m (m + j) := by
  obtain ⟨h1, h2⟩ := h
  obtain ⟨h3, h4⟩ := hr
  refine ⟨h3.trans h1, fun k => ?_⟩
  rw [h4, h2, h2, h2]
  (repeat' split) <;> first | (exfalso; omega) | rfl | (congr 1; omega)
theorem Rot.small {d d1 d' : Array Int} {m i j : Nat} (h : SwR d d1 (m - i) (m + j - i) i) (hij : i < j) (hi : i ≤ m) (hr : Rot d1 d' (m - i) m (m + (j - i))) : Rot d d' (m - i) m (m + j) := by
  obtain ⟨h1, h2⟩ := h
  obtain ⟨h3, h4⟩ := hr
  refine ⟨h3.trans h1, fun k => ?_⟩
  rw [h4, h2, h2, h2]
  (repeat' split) <;> first | (exfalso; omega) | rfl | (congr 1; omega)

theorem Rot.start {d d' : Array Int} {a m b : Nat} (h : Rot d d' (m - (m - a)) m (m + (b - m))) (h1 : a ≤ m) (h2 : m ≤ b) : Rot d d' a m b := by
  have e1 : m - (m - a) = a := by omega
  have e2 : m + (b - m) = b := by omega
  rw [e1, e2] at h; exact h

def Okk (ok : Int → Prop) (d : Array Int) : Prop := ∀ i, i < d.size → ok d[i]!
theorem Okk.swp {ok : Int → Prop} {d : Array Int} (h : Okk ok d) {i j : Nat} (hi : i < d.size) (hj : j < d.size) : Okk ok (swp d i j) := by
  intro k hk
  rw [size_swp] at hk
  rw [get_swp _ _ _ _ hi hj]
  (repeat' split) <;> exact h _ (by omega)
theorem Okk.perm {ok : Int → Prop} {d d' : Array Int} {a b : Nat} (h : Okk ok d) (hp : PermIn a b d d') (hb : b ≤ d.size) : Okk ok d' := by
  intro k hk
  rw [hp.1] at hk
  by_cases e : a ≤ k ∧ k < b
  · exact permIn_all d d' a b ok hb hp (fun i h1 h2 => h i (by omega)) k e.1 e.2
  · rw [hp.2.1 k (by omega)]; exact h k hk
theorem perm_swp {d d' : Array Int} {a b : Nat} (h : PermIn a b d d') {i j : Nat} (h1 : a ≤ i) (h2 : i < b) (h3 : a ≤ j) (h4 : j < b) (hb : b ≤ d.size) : PermIn a b d (swp d' i j) :=
  permIn_trans _ _ _ _ _ h (swp_permIn d' a b i j h1 h2 h3 h4 (by rw [h.1]; exact hb))
theorem perm_more {d d' d'' : Array Int} {a b a' b' : Nat} (h : PermIn a b d d') (hs : PermIn a' b' d' d'') (h1 : a ≤ a') (h2 : b' ≤ b) (hb : b ≤ d.size) : PermIn a b d d'' :=
  permIn_trans _ _ _ _ _ h (permIn_mono d' d'' a' b' a b h1 h2 (by rw [h.1]; exact hb) hs)
end Go.Proofs.Ytkbngaollbmcbaa.KK

namespace Go.Proofs.Ytkbngaollbmcbaa.KK
open Go Go.RowKit Go.Sort

/-- d[a] has gone up to place k, what stood between has come down. -/
def Shl (d d' : Array Int) (a k : Nat) : Prop := d'.size = d.size ∧ ∀ t, d'[t]! = if a ≤ t ∧ t < k then d[t + 1]! else if t = k then d[a]! else d[t]!
/-- d[m] has gone down to place k. -/
def Shr (d d' : Array Int) (m k : Nat) : Prop := d'.size = d.size ∧ ∀ t, d'[t]! = if k < t ∧ t ≤ m then d[t - 1]! else if t = k then d[m]! else d[t]!
theorem Shl.start (d : Array Int) (a : Nat) : Shl d d a a := ⟨rfl, fun t => by
  (repeat' split) <;> first | (exfalso; omega) | rfl | (congr 1; done) | (congr 1; omega)⟩
theorem Shr.start (d : Array Int) (m : Nat) : Shr d d m m := ⟨rfl, fun t => by
  (repeat' split) <;> first | (exfalso; omega) | rfl | (congr 1; done) | (congr 1; omega)⟩
theorem Shl.step {d d' : Array Int} {a k : Nat} (h : Shl d d' a k) (ha : a ≤ k) (hk : k + 1 < d.size) : Shl d (swp d' k (k + 1)) a (k + 1) := by
  obtain ⟨h1, h2⟩ := h
  refine ⟨by rw [size_swp, h1], fun t => ?_⟩
  rw [get_swp _ _ _ _ (by omega) (by omega), h2, h2, h2]
  (repeat' split) <;> first | (exfalso; omega) | rfl | (congr 1; omega)
theorem Shr.step {d d' : Array Int} {m k : Nat} (h : Shr d d' m k) (hm : k ≤ m) (h0 : 0 < k) (hk : m < d.size) : Shr d (swp d' k (k - 1)) m (k - 1) := by
  obtain ⟨h1, h2⟩ := h
  refine ⟨by rw [size_swp, h1], fun t => ?_⟩
  rw [get_swp _ _ _ _ (by omega) (by omega), h2, h2, h2]
  (repeat' split) <;> first | (exfalso; omega) | rfl | (congr 1; omega)

section
variable {lt : Int → Int → Bool} {d : Array Int}
theorem srt_le (hS : SWO lt) {a b i j : Nat} (h : SortedIn lt a b d) (h1 : a ≤ i) (h2 : i ≤ j) (h3 : j < b) : lt d[j]! d[i]! = false := by
  rcases Nat.lt_or_ge i j with h4 | h4
  · exact h i j h1 h4 h3
  · have : i = j := by omega
    subst this; exact hS.irrefl _
theorem swo_asymm (hS : SWO lt) {x y : Int} (h : lt x y = true) : lt y x = false := by
  cases e : lt y x with
  | false => rfl
  | true => have := hS.trans _ _ _ h e; rw [hS.irrefl] at this; cases this

/-- What a search has found: p holds of the places of [lo, i), and not of [j, hi). -/
def Found (p : Nat → Bool) (lo i j hi : Nat) : Prop := (∀ k, lo ≤ k → k < i → p k = true) ∧ (∀ k, j ≤ k → k < hi → p k = false)
theorem Found.start (p : Nat → Bool) (lo hi : Nat) : Found p lo lo hi hi := ⟨fun k h1 h2 => by omega, fun k h1 h2 => by omega⟩
theorem Found.up {p : Nat → Bool} {lo i j hi h : Nat} (f : Found p lo i j hi) (hp : p h = true) (hm : ∀ k, lo ≤ k → k ≤ h → p h = true → p k = true) : Found p lo (h + 1) j hi :=
  ⟨fun k h1 h2 => hm k h1 (by omega) hp, f.2⟩
theorem Found.down {p : Nat → Bool} {lo i j hi h : Nat} (f : Found p lo i j hi) (hp : p h = false) (hm : ∀ k, h ≤ k → k < hi → p h = false → p k = false) : Found p lo i h hi :=
  ⟨f.1, fun k h1 h2 => hm k h1 h2 hp⟩

/-- [m, b) is sorted: what is less than x lies ahead. -/
theorem less_up (hS : SWO lt) {m b : Nat} (hs : SortedIn lt m b d) (x : Int) {h k : Nat} (h1 : m ≤ k) (h2 : k ≤ h) (h3 : h < b) (hp : lt d[h]! x = true) : lt d[k]! x = true := by
  cases e : lt d[k]! x with
  | true => rfl
  | false => have := hS.ntrans _ _ _ (srt_le hS hs h1 h2 h3) e; rw [hp] at this; cases this
theorem less_down (hS : SWO lt) {m b : Nat} (hs : SortedIn lt m b d) (x : Int) {h k : Nat} (h1 : m ≤ h) (h2 : h ≤ k) (h3 : k < b) (hp : lt d[h]! x = false) : lt d[k]! x = false :=
  hS.ntrans _ _ _ (srt_le hS hs h1 h2 h3) hp
theorem more_up (hS : SWO lt) {m b : Nat} (hs : SortedIn lt m b d) (x : Int) {h k : Nat} (h1 : m ≤ k) (h2 : k ≤ h) (h3 : h < b) (hp : lt x d[h]! = false) : lt x d[k]! = false :=
  hS.ntrans _ _ _ hp (srt_le hS hs h1 h2 h3)
theorem more_down (hS : SWO lt) {m b : Nat} (hs : SortedIn lt m b d) (x : Int) {h k : Nat} (h1 : m ≤ h) (h2 : h ≤ k) (h3 : k < b) (hp : lt x d[h]! = true) : lt x d[k]! = true := by
  cases e : lt x d[k]! with
  | true => rfl
  | false => have := hS.ntrans _ _ _ e (srt_le hS hs h1 h2 h3); rw [hp] at this; cases this

/-- The one element of the left row is laid into the right one. -/
theorem sorted_shl (hS : SWO lt) {d' : Array Int} {a b i : Nat} (hs : SortedIn lt (a + 1) b d) (hf : Found (fun k => lt d[k]! d[a]!) (a + 1) i i b) (h1 : a + 1 ≤ i) (h2 : i ≤ b) (h : Shl d d' a (i - 1)) : SortedIn lt a b d' := by
  intro p q hp hpq hq
  rw [h.2, h.2]
  by_cases e1 : q < i - 1
  · rw [if_pos (by omega), if_pos (by omega)]; exact hs _ _ (by omega) (by omega) (by omega)
  · rw [if_neg (by omega)]
    by_cases e2 : q = i - 1
    · rw [if_pos e2, if_pos (by omega)]
      exact swo_asymm hS (hf.1 (p + 1) (by omega) (by omega))
    · rw [if_neg e2]
      by_cases e3 : p < i - 1
      · rw [if_pos (by omega)]; exact hs _ _ (by omega) (by omega) (by omega)
      · rw [if_neg (by omega)]
        by_cases e4 : p = i - 1
        · rw [if_pos e4]; exact hf.2 q (by omega) (by omega)
        · rw [if_neg e4]; exact hs _ _ (by omega) (by omega) (by omega)
theorem sorted_shr (hS : SWO lt) {d' : Array Int} {a m i : Nat} (hs : SortedIn lt a m d) (hf : Found (fun k => !lt d[m]! d[k]!) a i i m) (h1 : a ≤ i) (h2 : i ≤ m) (h : Shr d d' m i) : SortedIn lt a (m + 1) d' := by
  intro p q hp hpq hq
  rw [h.2, h.2]
  by_cases e1 : i < p
  · rw [if_pos (by omega), if_pos (by omega)]; exact hs _ _ (by omega) (by omega) (by omega)
  · rw [if_neg (c := i < p ∧ p ≤ m) (by omega)]
    by_cases e2 : p = i
    · rw [if_pos e2, if_pos (by omega)]
      have := hf.2 (q - 1) (by omega) (by omega)
      simp only [Bool.not_eq_false'] at this
      exact swo_asymm hS this
    · rw [if_neg e2]
      by_cases e3 : i < q
      · rw [if_pos (by omega)]; exact hs _ _ (by omega) (by omega) (by omega)
      · rw [if_neg (by omega)]
        by_cases e4 : q = i
        · rw [if_pos e4]
          have := hf.1 p (by omega) (by omega)
          simpa using this
        · rw [if_neg e4]; exact hs _ _ (by omega) (by omega) (by omega)

theorem Rot.triv (d : Array Int) {s m e : Nat} (h : s = m ∨ m = e) (h1 : s ≤ m) (h2 : m ≤ e) : Rot d d s m e := ⟨rfl, fun k => by
  (repeat' split) <;> first | (exfalso; omega) | rfl | (congr 1; done) | (congr 1; omega)⟩

theorem sorted_of_rot (hS : SWO lt) {d d1 : Array Int} {a s m e b : Nat} (hr : Rot d d1 s m e) (h1 : a ≤ s) (h2 : s ≤ m) (h3 : m ≤ e) (h4 : e ≤ b) (hl : SortedIn lt a m d) (hg : SortedIn lt m b d) :
    SortedIn lt a s d1 ∧ SortedIn lt s (s + (e - m)) d1 ∧ SortedIn lt (s + (e - m)) e d1 ∧ SortedIn lt e b d1 := by
  refine ⟨fun p q hp hpq hq => ?_, fun p q hp hpq hq => ?_, fun p q hp hpq hq => ?_, fun p q hp hpq hq => ?_⟩ <;> rw [hr.2, hr.2]
  · rw [if_neg (by omega), if_neg (by omega), if_neg (by omega), if_neg (by omega)]; exact hl _ _ (by omega) (by omega) (by omega)
  · rw [if_pos (by omega), if_pos (by omega)]; exact hg _ _ (by omega) (by omega) (by omega)
  · rw [if_neg (by omega), if_pos (by omega), if_neg (by omega), if_pos (by omega)]; exact hl _ _ (by omega) (by omega) (by omega)
  · rw [if_neg (by omega), if_neg (by omega), if_neg (by omega), if_neg (by omega)]; exact hg _ _ (by omega) (by omega) (by omega)

/-- The heart of the merge: all of the left half are at most all of the right half. -/
theorem rot_halves (hS : SWO lt) {d d1 : Array Int} {a s m e b : Nat} (hr : Rot d d1 s m e) (h1 : a ≤ s) (h2 : s ≤ m) (h3 : m ≤ e) (h4 : e ≤ b) (hl : SortedIn lt a m d) (hg : SortedIn lt m b d)
    (hx : a < s → e < b → lt d[e]! d[s - 1]! = false) (hy : s < m → m < e → lt d[e - 1]! d[s]! = true) :
    ∀ i j, a ≤ i → i < s + (e - m) → s + (e - m) ≤ j → j < b → lt d1[j]! d1[i]! = false := by
  intro i j hi1 hi2 hj1 hj2
  rw [hr.2, hr.2]
  by_cases ei : i < s
  · rw [if_neg (c := s ≤ i ∧ i < s + (e - m)) (by omega), if_neg (c := s + (e - m) ≤ i ∧ i < e) (by omega), if_neg (by omega)]
    by_cases ej : j < e
    · rw [if_pos (by omega)]; exact hl _ _ (by omega) (by omega) (by omega)
    · rw [if_neg (by omega)]
      have k1 := hx (by omega) (by omega)
      have k2 := srt_le hS hg (i := e) (j := j) (by omega) (by omega) (by omega)
      have k3 := srt_le hS hl (i := i) (j := s - 1) (by omega) (by omega) (by omega)
      exact hS.ntrans _ _ _ k2 (hS.ntrans _ _ _ k1 k3)
  · rw [if_pos (c := s ≤ i ∧ i < s + (e - m)) (by omega), if_neg (by omega)]
    by_cases ej : j < e
    · rw [if_pos (by omega)]
      have k1 := swo_asymm hS (hy (by omega) (by omega))
      have k2 := srt_le hS hg (i := i - s + m) (j := e - 1) (by omega) (by omega) (by omega)
      have k3 := srt_le hS hl (i := s) (j := j - (e - m)) (by omega) (by omega) (by omega)
      exact hS.ntrans _ _ _ k3 (hS.ntrans _ _ _ k1 k2)
    · rw [if_neg (by omega)]; exact hg _ _ (by omega) (by omega) (by omega)

/-- Two halves sorted for themselves, all of the one at most all of the other. -/
theorem sorted_join {d1 d2 d3 : Array Int} {a q b : Nat} (haq : a ≤ q) (hqb : q ≤ b) (hb : b ≤ d1.size) (hh : ∀ i j, a ≤ i → i < q → q ≤ j → j < b → lt d1[j]! d1[i]! = false)
    (hp : PermIn a q d1 d2) (hp2 : PermIn q b d2 d3) (s2 : SortedIn lt a q d2) (s3 : SortedIn lt q b d3) : SortedIn lt a b d3 := by
  have h2 : ∀ i j, a ≤ i → i < q → q ≤ j → j < b → lt d2[j]! d2[i]! = false := by
    intro i j h1 h3 h4 h5
    rw [hp.2.1 j (by omega)]
    exact permIn_all d1 d2 a q (fun x => lt d1[j]! x = false) (by omega) hp (fun k k1 k2 => hh k j k1 k2 h4 h5) i h1 h3
  intro i j h1 h3 h5
  by_cases e1 : j < q
  · rw [hp2.2.1 i (by omega), hp2.2.1 j (by omega)]; exact s2 i j h1 h3 e1
  · by_cases e2 : q ≤ i
    · exact s3 i j e2 h3 h5
    · rw [hp2.2.1 i (by omega)]
      exact permIn_all d2 d3 q b (fun y => lt y d2[i]! = false) (by rw [hp.1]; omega) hp2 (fun k k1 k2 => h2 i k h1 (by omega) k1 k2) j (by omega) h5
end
section
variable {lt : Int → Int → Bool} {d : Array Int}
theorem fA_up (hS : SWO lt) {m b i j h : Nat} {x : Int} (hs : SortedIn lt m b d) (f : Found (fun k => lt d[k]! x) m i j b) (hb : h < b) (hp : lt d[h]! x = true) : Found (fun k => lt d[k]! x) m (h + 1) j b :=
  f.up hp fun _ h1 h2 hp => less_up hS hs _ h1 h2 hb hp
theorem fA_down (hS : SWO lt) {m b i j h : Nat} {x : Int} (hs : SortedIn lt m b d) (f : Found (fun k => lt d[k]! x) m i j b) (hb : m ≤ h) (hp : lt d[h]! x = false) : Found (fun k => lt d[k]! x) m i h b :=
  f.down hp fun _ h1 h2 hp => less_down hS hs _ hb h1 h2 hp
theorem fB_up (hS : SWO lt) {a m i j h : Nat} {x : Int} (hs : SortedIn lt a m d) (f : Found (fun k => !lt x d[k]!) a i j m) (hb : h < m) (hp : lt x d[h]! = false) : Found (fun k => !lt x d[k]!) a (h + 1) j m :=
  f.up (by simp only [hp, Bool.not_false]) fun k h1 h2 hq => by
    simp only [Bool.not_eq_true'] at hq ⊢
    exact more_up hS hs _ h1 h2 hb hq
theorem fB_down (hS : SWO lt) {a m i j h : Nat} {x : Int} (hs : SortedIn lt a m d) (f : Found (fun k => !lt x d[k]!) a i j m) (hb : a ≤ h) (hp : lt x d[h]! = true) : Found (fun k => !lt x d[k]!) a i h m :=
  f.down (by simp only [hp, Bool.not_true]) fun k h1 h2 hq => by
    simp only [Bool.not_eq_false'] at hq ⊢
    exact more_down hS hs _ hb h1 h2 hq
theorem fC_up (hS : SWO lt) {a m b p s0 r0 i j h : Nat} (hl : SortedIn lt a m d) (hg : SortedIn lt m b d) (f : Found (fun k => !lt d[p - k]! d[k]!) s0 i j r0) (h1 : a ≤ s0) (h2 : h < r0) (h3 : r0 ≤ m) (h4 : m + r0 ≤ p + 1) (h5 : p < b + s0)
    (hp : lt d[p - h]! d[h]! = false) : Found (fun k => !lt d[p - k]! d[k]!) s0 (h + 1) j r0 :=
  f.up (by simp only [hp, Bool.not_false]) fun k k1 k2 hq => by
    simp only [Bool.not_eq_true'] at hq ⊢
    exact hS.ntrans _ _ _ (srt_le hS hg (i := p - h) (j := p - k) (by omega) (by omega) (by omega)) (hS.ntrans _ _ _ hq (srt_le hS hl (i := k) (j := h) (by omega) (by omega) (by omega)))
theorem fC_down (hS : SWO lt) {a m b p s0 r0 i j h : Nat} (hl : SortedIn lt a m d) (hg : SortedIn lt m b d) (f : Found (fun k => !lt d[p - k]! d[k]!) s0 i j r0) (h1 : a ≤ s0) (h2 : s0 ≤ h) (h3 : r0 ≤ m) (h4 : m + r0 ≤ p + 1) (h5 : p < b + s0)
    (hp : lt d[p - h]! d[h]! = true) : Found (fun k => !lt d[p - k]! d[k]!) s0 i h r0 :=
  f.down (by simp only [hp, Bool.not_true]) fun k k1 k2 hq => by
    simp only [Bool.not_eq_false'] at hq ⊢
    cases e : lt d[p - k]! d[k]! with
    | true => rfl
    | false =>
      have := hS.ntrans _ _ _ (srt_le hS hg (i := p - k) (j := p - h) (by omega) (by omega) (by omega)) (hS.ntrans _ _ _ e (srt_le hS hl (i := h) (j := k) (by omega) (by omega) (by omega)))
      rw [hq] at this; cases this
end
theorem fC_x {lt : Int → Int → Bool} {d : Array Int} (hS : SWO lt) {p s0 s r r0 e : Nat} (hf : Found (fun k => !lt d[p - k]! d[k]!) s0 s r r0) (h1 : s0 < s) (h2 : s ≤ p) (h3 : p + 1 - s = e) (h4 : 0 < s) : lt d[e]! d[s - 1]! = false := by
  have := hf.1 (s - 1) (by omega) (by omega)
  simp only [Bool.not_eq_true'] at this
  rw [show p - (s - 1) = e from by omega] at this
  exact this
theorem fC_y {lt : Int → Int → Bool} {d : Array Int} {p s0 s r r0 e : Nat} (hf : Found (fun k => !lt d[p - k]! d[k]!) s0 s r r0) (h1 : r ≤ s) (h2 : s < r0) (h3 : p + 1 - s = e) (h4 : s ≤ p) : lt d[e - 1]! d[s]! = true := by
  have := hf.2 s (by omega) (by omega)
  simp only [Bool.not_eq_false'] at this
  rw [show p - s = e - 1 from by omega] at this
  exact this
theorem sorted_one {lt : Int → Int → Bool} {d : Array Int} {a s b : Nat} (h1 : SortedIn lt a s d) (h2 : SortedIn lt s b d) (h : s ≤ a ∨ b ≤ s) : SortedIn lt a b d := by
  intro i j k1 k2 k3
  rcases h with h | h
  · exact h2 i j (by omega) k2 k3
  · exact h1 i j k1 k2 (by omega)
theorem sorted_far {lt : Int → Int → Bool} {d d' : Array Int} {a q s b : Nat} (hp : PermIn a q d d') (h : SortedIn lt s b d) (h1 : q ≤ s) : SortedIn lt s b d' := by
  intro i j k1 k2 k3
  rw [hp.2.1 i (by omega), hp.2.1 j (by omega)]; exact h i j k1 k2 k3
/-- What is asked of the function that compares. -/
def CmpC (P : Program) (g fc : Nat) (cb : Array Value) (cf : Int → Int → Int) (ok : Int → Prop) (w0 : World) : Prop :=
  ∀ (W : World) (x y : Int), Kp [g] w0 W → ok x → ok y → Calls P fc (#[] ++ [Value.int .i64 x, .int .i64 y].toArray ++ cb) W (Ret fun v w' => v = .int .i64 (cf x y) ∧ Kp [] W w')
theorem CmpC.later {P : Program} {g fc : Nat} {cb : Array Value} {cf : Int → Int → Int} {ok : Int → Prop} {w0 w1 : World} (h : CmpC P g fc cb cf ok w0) (k : Kp [g] w0 w1) : CmpC P g fc cb cf ok w1 :=
  fun W x y hk => h W x y (k.trans hk (fun _ h _ => h))

/-- The contract of the merge, up to rows of fewer than N. -/
def SymC (P : Program) (F g n c fc : Nat) (post : List Value) (cb : Array Value) (cf : Int → Int → Int) (ok : Int → Prop) (N : Nat) : Prop :=
  ∀ (a m b : Nat) (d : Array Int) (w0 : World), b - a < N → Blk w0 g 3 (rowI d post) → CmpC P g fc cb cf ok w0 → Okk ok d → d.size = n → a < m → m < b → b ≤ n → SortedIn (ltC cf) a m d → SortedIn (ltC cf) m b d →
    Calls P F #[.slice (some ⟨g, 0, none⟩) n c, .int .i64 (a : Int), .int .i64 (m : Int), .int .i64 (b : Int), .func (.func fc) #[] cb] w0
      (Ret fun v w' => v = .tuple #[] ∧ ∃ d', PermIn a b d d' ∧ SortedIn (ltC cf) a b d' ∧ Kp [g] w0 w' ∧ Blk w' g 3 (rowI d' post))
end Go.Proofs.Ytkbngaollbmcbaa.KK

namespace Go.Proofs.Ytkbngaollbmcbaa.KK
open Go Go.RowKit Go.Sort

section
variable {lt : Int → Int → Bool}
/-- Sorted in blocks of q, from lo to hi. -/
def Bl (lt : Int → Int → Bool) (q lo hi : Nat) (d : Array Int) : Prop := ∀ i j, lo ≤ i → i < j → j < hi → i / q = j / q → lt d[j]! d[i]! = false
theorem Bl.start (q lo : Nat) (d : Array Int) : Bl lt q lo lo d := fun i j h1 h2 h3 _ => by omega
theorem Bl.grow {q a b : Nat} {d : Array Int} (hq : 0 < q) (hd : q ∣ a) (h : Bl lt q 0 a d) (hs : SortedIn lt a b d) : Bl lt q 0 b d := by
  intro i j h1 h2 h3 h4
  by_cases e1 : j < a
  · exact h i j h1 h2 e1 h4
  · by_cases e2 : a ≤ i
    · exact hs i j e2 h2 h3
    · obtain ⟨k, rfl⟩ := hd
      have k1 : i / q < k := (Nat.div_lt_iff_lt_mul hq).2 (by rw [Nat.mul_comm]; omega)
      have k2 : k ≤ j / q := (Nat.le_div_iff_mul_le hq).2 (by rw [Nat.mul_comm]; omega)
      omega
theorem Bl.sorted {q lo hi a b : Nat} {d : Array Int} (hq : 0 < q) (hd : q ∣ a) (h : Bl lt q lo hi d) (h1 : lo ≤ a) (h2 : b ≤ hi) (h3 : b ≤ a + q) : SortedIn lt a b d := by
  intro i j k1 k2 k3
  refine h i j (by omega) k2 (by omega) ?_
  obtain ⟨k, rfl⟩ := hd
  have hx : ∀ x, q * k ≤ x → x < q * k + q → x / q = k := fun x e1 e2 => by
    obtain ⟨r, rfl⟩ : ∃ r, x = q * k + r := ⟨x - q * k, by omega⟩
    rw [Nat.mul_add_div hq, Nat.div_eq_of_lt (by omega)]; rfl
  rw [hx i (by omega) (by omega), hx j (by omega) (by omega)]
theorem Bl.left {q lo a b : Nat} {d d' : Array Int} (hp : PermIn a b d d') (h : Bl lt q lo a d) : Bl lt q lo a d' := by
  intro i j h1 h2 h3 h4
  rw [hp.2.1 i (by omega), hp.2.1 j (by omega)]; exact h i j h1 h2 h3 h4
theorem Bl.right {q hi a b : Nat} {d d' : Array Int} (hp : PermIn a b d d') (h : Bl lt q b hi d) : Bl lt q b hi d' := by
  intro i j h1 h2 h3 h4
  rw [hp.2.1 i (by omega), hp.2.1 j (by omega)]; exact h i j h1 h2 h3 h4
theorem Bl.mono {q lo lo' hi : Nat} {d : Array Int} (h : Bl lt q lo hi d) (h1 : lo ≤ lo') : Bl lt q lo' hi d := fun i j k1 k2 k3 k4 => h i j (by omega) k2 k3 k4
theorem dvd_more {q a b : Nat} (h : q ∣ a) (e : b = a + q) : q ∣ b := by subst e; exact Nat.dvd_add h (Nat.dvd_refl q)
theorem dvd_half {q a : Nat} (h : 2 * q ∣ a) : q ∣ a := Nat.dvd_trans ⟨2, by rw [Nat.mul_comm]⟩ h
theorem dvd_mid {q a b : Nat} (h : 2 * q ∣ a) (e : b = a + q) : q ∣ b := dvd_more (dvd_half h) e
end
theorem ins_law (lt : Int → Int → Bool) (hS : SWO lt) (d : Array Int) (a b : Nat) (h1 : a ≤ b) (h2 : b ≤ d.size) : ∃ d', insertionSort lt d a b = d' ∧ PermIn a b d d' ∧ SortedIn lt a b d' :=
  ⟨_, rfl, (insertionSort_holds hS d a b h1 h2).1, (insertionSort_holds hS d a b h1 h2).2⟩
end Go.Proofs.Ytkbngaollbmcbaa.KK

namespace Go.Proofs.Ytkbngaollbmcbaa.KK
open Go Go.RowKit Go.Sort

theorem flat_vi (os : List Int) : (os.map vi).flatMap (fun v => v.cells.toList) = os.map vi := by
  induction os with
  | nil => rfl
  | cons x r ih => rw [List.map_cons, List.flatMap_cons, ih]; rfl
/-- A row of the call's own, as a block. -/
theorem Own.blk {w : World} {base e c : Nat} {A : Option Addr} {os : List Int} (h : Own w base e 1 A c (os.map vi)) (hne : 0 < os.length) :
    ∃ g post, A = some ⟨g, 0, none⟩ ∧ base ≤ g ∧ g < w.heap.size ∧ os.length ≤ c ∧ Blk w g e (rowI os.toArray post) := by
  obtain ⟨⟨h1, h2⟩, hc, hle⟩ := h
  rcases h2 with ⟨_, h0⟩ | ⟨g, cap, cur, hv, hb, hh, hn, _, hcs, htk⟩
  · simp at h0; rw [h0] at hne; simp at hne
  · injection hv with hA _ hcc; subst hA
    refine ⟨g, cur.toList.drop os.length, rfl, hb, (Array.getElem?_eq_some_iff.1 hh).1, by simpa using hle, ?_⟩
    unfold Blk rowI
    rw [hh]
    rw [flat_vi] at htk
    simp at htk
    congr 2
    apply Array.toList_inj.1
    simp
    rw [← htk, List.take_append_drop]
theorem Blk.sl {w : World} {g T c : Nat} {l : List Int} {post : List Value} (h : Blk w g T (l.map vi ++ post)) (hc : l.length ≤ c) : Sl w 0 w.heap.size 1 (some ⟨g, 0, none⟩) l.length c (ivv l) :=
  Sl.of_blk h hc (Nat.zero_le _) h.lt fun i hi => ⟨rfl, fun j u hu => by
    have hu' : (#[Value.int .i64 (l.getD i 0)] : Array Value)[j]? = some u := hu
    obtain ⟨hj, he⟩ := Array.getElem?_eq_some_iff.1 hu'
    obtain rfl : j = 0 := by simpa using hj
    rw [← he, List.getElem?_append_left (by simpa using hi)]
    simp [hi]⟩
theorem stF_len {h : List Ev} (hc : checkF h = 0) : (stF h).length = h.length := by
  unfold stF; rw [if_pos hc]
  have : ∀ (h : List Ev) (la se : Nat → Int), (stGo h la se).length = h.length := by
    intro h; induction h with
    | nil => intros; rfl
    | cons e r ih => intros; simp [stGo, ih]
  exact this _ _ _
/-- Which of two events comes first: stamp, then process. -/
def cfT (h : List Ev) (x y : Int) : Int := orF [cmpI ((stF h).getD x.toNat 0) ((stF h).getD y.toNat 0), cmpI (h.getD x.toNat default).proc (h.getD y.toNat default).proc]
theorem cfT_lt (h : List Ev) (x y : Int) : cfT h x y < 0 ↔ (stF h).getD x.toNat 0 < (stF h).getD y.toNat 0 ∨ ((stF h).getD x.toNat 0 = (stF h).getD y.toNat 0 ∧ (h.getD x.toNat default).proc < (h.getD y.toNat default).proc) := by
  unfold cfT orF orF orF cmpI
  generalize (stF h).getD x.toNat 0 = a
  generalize (stF h).getD y.toNat 0 = b
  generalize (h.getD x.toNat default).proc = p
  generalize (h.getD y.toNat default).proc = q
  (repeat' split) <;> omega
theorem cfT_swo (h : List Ev) : SWO (ltC (cfT h)) where
  irrefl x := by simp only [ltC, decide_eq_false_iff_not, cfT_lt]; omega
  trans x y z := by simp only [ltC, decide_eq_true_eq, cfT_lt]; omega
  ntrans x y z := by simp only [ltC, decide_eq_false_iff_not, cfT_lt]; omega
def rng (n : Nat) : List Int := (List.range n).map Int.ofNat
theorem rng_len (n : Nat) : (rng n).length = n := by simp [rng]
theorem rng_succ (n : Nat) : rng (n + 1) = rng n ++ [(n : Int)] := by simp [rng, List.range_succ]
def okT (n : Nat) (x : Int) : Prop := 0 ≤ x ∧ x < n
theorem rng_ok (n : Nat) : Okk (okT n) (rng n).toArray := by
  intro i hi
  simp [rng] at hi
  simp [rng, hi, okT]
/-- What Total gives. -/
def TotOK (h : List Ev) (t : List Int) : Prop := t.Perm (rng h.length) ∧ ∀ i j, i < j → j < t.length → ltC (cfT h) (t.getD j 0) (t.getD i 0) = false
theorem TotOK.of {h : List Ev} {n : Nat} {d : Array Int} (hn : n = h.length) (hp : PermIn 0 n (rng n).toArray d) (hs : SortedIn (ltC (cfT h)) 0 n d) : TotOK h d.toList := by
  subst hn
  obtain ⟨h1, _, h2⟩ := hp
  have hsz : d.size = h.length := by rw [h1]; simp [rng]
  refine ⟨?_, fun i j hij hj => ?_⟩
  · have e1 : d.extract 0 h.length = d := by rw [← hsz]; simp
    have e2 : (rng h.length).toArray.extract 0 h.length = (rng h.length).toArray := by
      have hl := rng_len h.length
      generalize rng h.length = q at hl
      rw [← hl]; simp
    rw [e1, e2] at h2
    simpa using h2
  · have hj' : j < h.length := by simpa [hsz] using hj
    have := hs i j (Nat.zero_le _) hij hj'
    have hi' : i < d.size := by omega
    have hj2 : j < d.size := by omega
    simpa [hi', hj2] using this
end Go.Proofs.Ytkbngaollbmcbaa.KK

namespace Go.Proofs.Ytkbngaollbmcbaa.KK
open Go Go.RowKit

/-- One of two events comes straight ahead of the other. -/
def Edge (h : List Ev) (a b : Nat) : Prop := (h.getD a default).proc = (h.getD b default).proc ∨ ((h.getD a default).kind = 2 ∧ (h.getD b default).kind = 3 ∧ (h.getD a default).msg = (h.getD b default).msg)
def Sound (R : Nat → Nat → Prop) (k : Nat) (M : Nat → Nat → Bool) : Prop := ∀ i, i < k → ∀ j, M i j = true → R j i
theorem Sound.put {R : Nat → Nat → Prop} {k : Nat} {M : Nat → Nat → Bool} (h : Sound R k M) {i j : Nat} {x : Bool} (hx : x = true → R j i) : Sound R k (upd M i (upd (M i) j x)) := by
  intro i' hi' j' hv
  by_cases e : i' = i
  · subst e
    simp only [upd, if_true] at hv
    by_cases e2 : j' = j
    · subst e2; simp only [if_true] at hv; exact hx hv
    · simp only [if_neg e2] at hv; exact h _ hi' _ hv
  · simp only [upd, if_neg e] at hv; exact h _ hi' _ hv
theorem Sound.grow {R : Nat → Nat → Prop} {k : Nat} {M M' : Nat → Nat → Bool} (h : Sound R k M) (h1 : ∀ i, i < k → M' i = M i) (h2 : M' k = fun _ => false) : Sound R (k + 1) M' := by
  intro i hi j hv
  by_cases e : i = k
  · subst e; rw [h2] at hv; cases hv
  · rw [h1 i (by omega)] at hv; exact h i (by omega) j hv
def pv (p : Nat × Nat) : Value := .agg #[.int .i64 p.1, .int .i64 p.2]
theorem mem_more {α : Type} {ps : List α} {q : α} {p : α → Prop} (h : ∀ x ∈ ps, p x) (hq : p q) : ∀ x ∈ ps ++ [q], p x := by
  intro x hx
  rcases List.mem_append.1 hx with h1 | h1
  · exact h x h1
  · simp at h1; subst h1; exact hq
end Go.Proofs.Ytkbngaollbmcbaa.KK

namespace Go.Proofs.Ytkbngaollbmcbaa.KK
open Go Go.RowKit Go.Sort

/-! ### The stamps grow along the edges -/
theorem stGo_len : ∀ (h : List Ev) (la se : Nat → Int), (stGo h la se).length = h.length
  | [], _, _ => rfl
  | e :: r, la, se => by simp [stGo, stGo_len r]
theorem stNew_gt (e : Ev) (la se : Nat → Int) : la e.proc.toNat < stNew e la se ∧ (e.kind = 3 → se e.msg.toNat < stNew e la se) := by
  unfold stNew
  split
  · omega
  · exact ⟨by omega, fun h => by omega⟩
/-- Each stamp is past the last of its process. -/
theorem stGo_proc : ∀ (h : List Ev) (la se : Nat → Int) (j : Nat), j < h.length → la (h.getD j default).proc.toNat < (stGo h la se).getD j 0
  | [], _, _, _, hj => by simp at hj
  | e :: r, la, se, 0, _ => by simpa [stGo] using (stNew_gt e la se).1
  | e :: r, la, se, j + 1, hj => by
    have ih := stGo_proc r (upd la e.proc.toNat (stNew e la se)) (if e.kind = 2 then upd se e.msg.toNat (stNew e la se) else se) j (by simpa using hj)
    simp only [stGo, List.getD_cons_succ]
    have hn := (stNew_gt e la se).1
    unfold upd at ih
    by_cases hp : (r.getD j default).proc.toNat = e.proc.toNat
    · rw [if_pos hp] at ih; rw [hp]; exact Int.lt_trans hn ih
    · rw [if_neg hp] at ih; exact ih
/-- A message that is sent is not sent again: each that takes it is past the sender. -/
theorem stGo_msg : ∀ (h : List Ev) (la se : Nat → Int) (s : Nat → Int) (t : Nat → Bool) (m : Nat), ckGo h s t = 0 → 0 < s m → ∀ j, j < h.length → (h.getD j default).kind = 3 → (h.getD j default).msg.toNat = m → se m < (stGo h la se).getD j 0
  | [], _, _, _, _, _, _, _, _, hj, _, _ => by simp at hj
  | e :: r, la, se, s, t, m, hc, hs, j, hj, hk, hm => by
    simp only [ckGo] at hc
    split at hc
    · rename_i h0
      cases j with
      | zero =>
        simp only [List.getD_cons_zero] at hk hm
        have := (stNew_gt e la se).2 hk
        rw [hm] at this
        simpa [stGo] using this
      | succ j =>
        have key : se m = (if e.kind = 2 then upd se e.msg.toNat (stNew e la se) else se) m ∧ 0 < (evStep s t e.proc e.kind e.msg).2.1 m := by
          unfold evStep at h0 ⊢
          by_cases c1 : ¬ (0 ≤ e.proc ∧ e.proc ≤ 5)
          · rw [if_pos c1] at h0; simp at h0
          rw [if_neg c1] at h0 ⊢
          by_cases c2 : ¬ (0 ≤ e.msg ∧ e.msg ≤ 29)
          · rw [if_pos c2] at h0; simp at h0
          rw [if_neg c2] at h0 ⊢
          by_cases c3 : e.kind = 1
          · rw [if_pos c3] at h0 ⊢
            rw [if_neg (by omega)]
            split <;> exact ⟨rfl, hs⟩
          rw [if_neg c3] at h0 ⊢
          by_cases c4 : e.kind = 2
          · rw [if_pos c4] at h0 ⊢
            rw [if_pos c4]
            by_cases c5 : 0 < s e.msg.toNat
            · rw [if_pos c5] at h0; simp at h0
            · rw [if_neg c5]
              have : ¬ m = e.msg.toNat := fun x => c5 (x ▸ hs)
              simp [upd, this, hs]
          rw [if_neg c4] at h0 ⊢
          rw [if_neg c4]
          refine ⟨rfl, ?_⟩
          (repeat' split) <;> exact hs
        have ih := stGo_msg r (upd la e.proc.toNat (stNew e la se)) (if e.kind = 2 then upd se e.msg.toNat (stNew e la se) else se) _ _ m hc key.2 j (by simpa using hj) (by simpa using hk) (by simpa using hm)
        simp only [stGo, List.getD_cons_succ]
        rw [key.1]; exact ih
    · rename_i h0; exact absurd hc h0
theorem stGo_edge : ∀ (h : List Ev) (la se : Nat → Int) (s : Nat → Int) (t : Nat → Bool), ckGo h s t = 0 → ∀ a b, a < b → b < h.length → Edge h a b → (stGo h la se).getD a 0 < (stGo h la se).getD b 0
  | [], _, _, _, _, _, _, _, _, hb, _ => by simp at hb
  | e :: r, la, se, s, t, hc, a, b, hab, hb, he => by
    obtain ⟨b, rfl⟩ : ∃ q, b = q + 1 := ⟨b - 1, by omega⟩
    have hc0 := hc
    simp only [ckGo] at hc
    split at hc
    · rename_i h0
      cases a with
      | succ a =>
        have := stGo_edge r (upd la e.proc.toNat (stNew e la se)) (if e.kind = 2 then upd se e.msg.toNat (stNew e la se) else se) _ _ hc a b (by omega) (by simpa using hb) (by simpa [Edge] using he)
        simpa [stGo] using this
      | zero =>
        simp only [Edge, List.getD_cons_zero, List.getD_cons_succ] at he
        simp only [stGo, List.getD_cons_zero, List.getD_cons_succ]
        rcases he with he | ⟨hk2, hk3, hmm⟩
        · have := stGo_proc r (upd la e.proc.toNat (stNew e la se)) (if e.kind = 2 then upd se e.msg.toNat (stNew e la se) else se) b (by simpa using hb)
          rw [← he] at this
          simpa [upd] using this
        · rw [if_pos hk2]
          have hsent : 0 < (evStep s t e.proc e.kind e.msg).2.1 e.msg.toNat := by
            unfold evStep at h0 ⊢
            by_cases c1 : ¬ (0 ≤ e.proc ∧ e.proc ≤ 5)
            · rw [if_pos c1] at h0; simp at h0
            rw [if_neg c1] at h0 ⊢
            by_cases c2 : ¬ (0 ≤ e.msg ∧ e.msg ≤ 29)
            · rw [if_pos c2] at h0; simp at h0
            rw [if_neg c2] at h0 ⊢
            rw [if_neg (by omega), if_pos hk2] at h0 ⊢
            by_cases c5 : 0 < s e.msg.toNat
            · rw [if_pos c5] at h0; simp at h0
            · rw [if_neg c5]; simp [upd]; omega
          have := stGo_msg r (upd la e.proc.toNat (stNew e la se)) (upd se e.msg.toNat (stNew e la se)) _ _ e.msg.toNat hc hsent b (by simpa using hb) hk3 (by rw [← hmm])
          simpa [upd] using this
    · rename_i h0; exact absurd hc h0
/-- Ahead in the stamps. -/
def StR (h : List Ev) (a b : Nat) : Prop := (stF h).getD a 0 < (stF h).getD b 0
theorem StR.trans (h : List Ev) (x y z : Nat) (h1 : StR h x y) (h2 : StR h y z) : StR h x z := Int.lt_trans h1 h2
theorem StR.base (h : List Ev) (hc : checkF h = 0) (a b : Nat) (hab : a < b) (hb : b < h.length) (he : Edge h a b) : StR h a b := by
  unfold StR stF
  rw [if_pos hc]
  unfold checkF at hc
  split at hc
  · simp at hc
  · exact stGo_edge h _ _ _ _ hc a b hab hb he

/-! ### What is in a total order -/
theorem TotOK.len {h : List Ev} {t : List Int} (ht : TotOK h t) : t.length = h.length := by rw [ht.1.length_eq, rng_len]
theorem TotOK.mem {h : List Ev} {t : List Int} (ht : TotOK h t) {k : Nat} (hk : k < t.length) : 0 ≤ t.getD k 0 ∧ t.getD k 0 < h.length := by
  have h1 : t.getD k 0 ∈ t := by simp [hk]
  have h2 := (ht.1.mem_iff).1 h1
  simp [rng] at h2
  obtain ⟨a, ha, he⟩ := h2
  simp [hk] at he ⊢
  omega
theorem rng_nodup (n : Nat) : (rng n).Nodup := by
  unfold rng
  exact List.Pairwise.map _ (fun a b h e => h (Int.ofNat.inj e)) List.nodup_range
theorem TotOK.nodup {h : List Ev} {t : List Int} (ht : TotOK h t) : t.Nodup := (ht.1.nodup_iff).2 (rng_nodup _)
theorem TotOK.fresh {h : List Ev} {t : List Int} (ht : TotOK h t) {k : Nat} (hk : k < t.length) : t.getD k 0 ∉ t.take k := by
  intro hm
  obtain ⟨i, hi, he⟩ := List.mem_iff_getElem.1 hm
  simp at hi
  simp [hk] at he
  exact List.pairwise_iff_getElem.1 ht.nodup i k (by omega) hk (by omega) he
theorem TotOK.ex {h : List Ev} {t : List Int} (ht : TotOK h t) {a : Nat} (ha : a < h.length) : ∃ i, i < t.length ∧ t.getD i 0 = (a : Int) := by
  have h1 : (a : Int) ∈ t := (ht.1.mem_iff).2 (by simp [rng]; exact ⟨a, ha, rfl⟩)
  obtain ⟨i, hi, he⟩ := List.mem_iff_getElem.1 h1
  exact ⟨i, hi, by simp [hi, he]⟩
/-- What is ahead comes first. -/
theorem tot_law {h : List Ev} {t : List Int} {d : Array Int} (ht : TotOK h t) (hd : ∀ i, i < t.length → d[(t.getD i 0).toNat]! = (i : Int)) {p : Nat × Nat} (h1 : p.1 < h.length) (h2 : p.2 < h.length) (hr : StR h p.1 p.2) : d[p.1]! < d[p.2]! := by
  obtain ⟨i, hi, ei⟩ := ht.ex h1
  obtain ⟨j, hj, ej⟩ := ht.ex h2
  have di := hd i hi
  have dj := hd j hj
  rw [ei] at di; rw [ej] at dj
  simp only [Int.toNat_natCast] at di dj
  rw [di, dj]
  have : ltC (cfT h) (t.getD i 0) (t.getD j 0) = true := by
    simp only [ltC, decide_eq_true_eq, cfT_lt, ei, ej, Int.toNat_natCast]
    exact Or.inl hr
  rcases Nat.lt_trichotomy i j with e | e | e
  · omega
  · subst e
    rw [(cfT_swo h).irrefl] at this; cases this
  · rw [ht.2 j i e hi] at this; cases this
def ev0 : List Ev := [⟨1, 1, 0⟩, ⟨0, 1, 0⟩]
theorem ck0 : checkF ev0 = 0 := by decide +kernel
theorem tot0 {t : List Int} (ht : TotOK ev0 t) : t = [1, 0] := by
  have hl := ht.len
  have hp := ht.1
  have hs := ht.2 0 1 (by omega) (by rw [hl]; decide)
  obtain ⟨x, y, rfl⟩ : ∃ x y, t = [x, y] := by
    match t, hl with
    | [x, y], _ => exact ⟨x, y, rfl⟩
  have hm : ∀ z, z ∈ [x, y] → z = 0 ∨ z = 1 := fun z hz => by
    have h1 := (hp.mem_iff (a := z)).1 hz
    simp [rng, ev0] at h1
    omega
  have hx := hm x (by simp)
  have hy := hm y (by simp)
  have hn : x ≠ y := by have := ht.nodup; simpa using this
  rcases hx with rfl | rfl <;> rcases hy with rfl | rfl
  · exact absurd rfl hn
  · exfalso; revert hs; decide +kernel
  · rfl
  · exact absurd rfl hn
def evFlat (h : List Ev) : List Value := h.flatMap fun e => [Value.int .i64 e.proc, .int .i64 e.kind, .int .i64 e.msg]
theorem Blk.slEv {w : World} {g T : Nat} {h : List Ev} (hb : Blk w g T (evFlat h)) : Sl w 0 w.heap.size 3 (some ⟨g, 0, none⟩) h.length h.length (evv h) :=
  Sl.of_blk hb (Nat.le_refl _) (Nat.zero_le _) hb.lt fun i hi => ⟨rfl, fun j u hu => by
    refine flatMap_getElem (fun e : Ev => [Value.int .i64 e.proc, .int .i64 e.kind, .int .i64 e.msg]) 3 h (fun _ _ => rfl) i (h.getD i default) (by simp [hi]) j u ?_
    have hu' : (#[Value.int .i64 (h.getD i default).proc, .int .i64 (h.getD i default).kind, .int .i64 (h.getD i default).msg] : Array Value)[j]? = some u := hu
    simpa using hu'⟩
theorem rowI_zero (n : Nat) : List.replicate n (Value.int .i64 0) = rowI (Array.replicate n 0) [] := by simp [rowI]
theorem TotOK.ne {h : List Ev} {t : List Int} (ht : TotOK h t) {i k : Nat} (hi : i < k) (hk : k < t.length) : t.getD i 0 ≠ t.getD k 0 := by
  have := List.pairwise_iff_getElem.1 ht.nodup i k (by omega) hk hi
  simpa [hk, show i < t.length from by omega] using this
theorem at_next {h : List Ev} {t : List Int} {d : Array Int} {k : Nat} (ht : TotOK h t) (hk : k < t.length) (hs : d.size = h.length) (hd : ∀ i, i < k → d[(t.getD i 0).toNat]! = (i : Int)) :
    ∀ i, i < k + 1 → (d.setIfInBounds (t.getD k 0).toNat (k : Int))[(t.getD i 0).toNat]! = (i : Int) := by
  intro i hi
  have mk := ht.mem hk
  have mi := ht.mem (k := i) (by omega)
  rw [get_set _ _ _ _ (by omega)]
  by_cases e : i = k
  · subst e; rw [if_pos rfl]
  · have := ht.ne (i := i) (k := k) (by omega) hk
    rw [if_neg (by omega)]; exact hd i (by omega)
theorem getD_mem {α : Type} {l : List α} {d : α} {k : Nat} (h : k < l.length) : l.getD k d ∈ l := by simp [h]
theorem mem_getD {α : Type} {l : List α} {d x : α} (h : x ∈ l) : ∃ i, i < l.length ∧ l.getD i d = x := by
  obtain ⟨i, hi, he⟩ := List.mem_iff_getElem.1 h
  exact ⟨i, hi, by simp [hi, he]⟩
theorem list_ext {a b : List Int} (hl : a.length = b.length) (h : ∀ i, i < a.length → a.getD i 0 = b.getD i 0) : a = b := by
  apply List.ext_getElem hl
  intro i h1 h2
  have := h i h1
  simpa [h1, h2] using this
end Go.Proofs.Ytkbngaollbmcbaa.KK
