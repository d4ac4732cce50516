/- What the proof leans on: rules for a walk through the code, walks of functions, and plain laws. No condition. -/
import Derived.WalkKit
import Derived.Deep.Quiet
import Derived.KernelRfl
import Derived.Deep.LoopGhost
import Derived.Laws.Rows
import Derived.IntWalk
import Derived.Maps.AppendAt

namespace Go.Proofs.Ytkbngaollbmcbaa.KK
open Go Go.RowKit

/-! ### Frames -/
def lk : List (Nat × Value) → Nat → Option Value
  | [], _ => none
  | (k', v) :: l, k => match Nat.beq k' k with | true => some v | false => lk l k

structure Fr (a : Act) (n : Nat) (l : List (Nat × Value)) : Prop where
  size : a.tmps.size = n
  nil : a.defers = []
  look : ∀ k v, lk l k = some v → a.tmps[k]? = some v

theorem lk_cons (k' : Nat) (v : Value) (l : List (Nat × Value)) (k : Nat) : lk ((k', v) :: l) k = if k' = k then some v else lk l k := by
  conv => lhs; unfold lk
  by_cases h : k' = k
  · subst h; simp
  · have : Nat.beq k' k = false := by
      cases hb : Nat.beq k' k
      · rfl
      · exact absurd (Nat.eq_of_beq_eq_true hb) h
    simp only [this, if_neg h]

theorem Fr.put {a : Act} {n : Nat} {l : List (Nat × Value)} (F : Fr a n l) {d : Nat} (hd : Nat.blt d n = true) (v : Value) : Fr (a.put (some d) v) n ((d, v) :: l) := by
  have hd' : d < n := by simpa [Nat.blt_eq] using hd
  refine ⟨by simp [Act.put, F.size], by simp [Act.put, F.nil], fun k u h => ?_⟩
  rw [lk_cons] at h
  simp only [Act.put, Array.getElem?_setIfInBounds]
  split at h
  · rename_i hk; subst hk
    simp only [if_true]
    rw [if_pos (by rw [F.size]; exact hd')]
    exact h
  · rename_i hk
    rw [if_neg hk]
    exact F.look k u h

theorem Fr.setv {a : Act} {n : Nat} {l : List (Nat × Value)} (F : Fr a n l) {k : Nat} {v v' : Value} (h : lk l k = some v) (hv : v = v') : Fr a n ((k, v') :: l) := by
  refine ⟨F.size, F.nil, fun k2 u h2 => ?_⟩
  rw [lk_cons] at h2
  split at h2
  · rename_i hk; subst hk; injection h2 with h2; subst h2; subst hv; exact F.look _ _ h
  · exact F.look _ _ h2

theorem Fr.setb {a : Act} {n : Nat} {l : List (Nat × Value)} (F : Fr a n l) {k : Nat} {b b' : Bool} (h : lk l k = some (.bool b)) (hv : b = b') : Fr a n ((k, .bool b') :: l) :=
  F.setv h (congrArg Value.bool hv)

/-- What is to be known of a list of slots. -/
def Has (l : List (Nat × Value)) : List (Nat × Value) → Prop
  | [] => True
  | (k, v) :: r => lk l k = some v ∧ Has l r

theorem Has.look {l : List (Nat × Value)} : ∀ {r : List (Nat × Value)}, Has l r → ∀ k v, lk r k = some v → lk l k = some v
  | [], _, k, v, h => by simp [lk] at h
  | (k', v') :: r, h, k, v, h2 => by
    rw [lk_cons] at h2
    split at h2
    · rename_i hk; subst hk; injection h2 with h2; subst h2; exact h.1
    · exact Has.look h.2 k v h2

theorem Fr.sub {a : Act} {n : Nat} {l r : List (Nat × Value)} (F : Fr a n l) (h : Has l r) : Fr a n r :=
  ⟨F.size, F.nil, fun k v hk => F.look k v (h.look k v hk)⟩

def evl (l : List (Nat × Value)) : Operand → Option Value
  | .tmp t => lk l t
  | .const v => some v
  | .global g => some (.pointer (some ⟨g, 0, none⟩))
  | .func f => some (.func (.func f) #[] #[])

theorem Fr.eval {a : Act} {n : Nat} {l : List (Nat × Value)} (F : Fr a n l) {x : Operand} {v : Value} (h : evl l x = some v) : a.eval x = v := by
  cases x with
  | tmp t => simp only [evl] at h; simp [Act.eval, F.look t v h]
  | const u => simp only [evl] at h; injection h
  | global g => simp only [evl] at h; injection h
  | func f => simp only [evl] at h; injection h

def evls (l : List (Nat × Value)) : List Operand → Option (List Value)
  | [] => some []
  | x :: r => match evl l x, evls l r with
    | some v, some vs => some (v :: vs)
    | _, _ => none

theorem Fr.evals {a : Act} {n : Nat} {l : List (Nat × Value)} (F : Fr a n l) : ∀ {xs : List Operand} {vs : List Value}, evls l xs = some vs → xs.map a.eval = vs
  | [], vs, h => by simp only [evls, Option.some.injEq] at h; subst h; rfl
  | x :: r, vs, h => by
    simp only [evls] at h
    split at h
    · rename_i v us hv hus
      injection h with h
      subst h
      rw [List.map_cons, F.eval hv, F.evals hus]
    · cases h

/-- The frame at a function's start. -/
def enum : Nat → List Value → List (Nat × Value)
  | _, [] => []
  | k, v :: r => (k, v) :: enum (k + 1) r

theorem lk_enum : ∀ (vs : List Value) (b k : Nat) (v : Value), lk (enum b vs) k = some v → b ≤ k ∧ vs[k - b]? = some v
  | [], b, k, v, h => by simp [enum, lk] at h
  | u :: r, b, k, v, h => by
    simp only [enum] at h
    rw [lk_cons] at h
    split at h
    · rename_i hk; subst hk; exact ⟨Nat.le_refl _, by simpa using h⟩
    · obtain ⟨h1, h2⟩ := lk_enum r (b + 1) k v h
      refine ⟨by omega, ?_⟩
      obtain ⟨m, hm⟩ : ∃ m, k - b = m + 1 := ⟨k - b - 1, by omega⟩
      rw [hm, List.getElem?_cons_succ]
      have hm' : m = k - (b + 1) := by omega
      rw [hm']; exact h2

theorem Fr.enter (vs : List Value) (m : Nat) : Fr ⟨vs.toArray ++ Array.replicate m undef, []⟩ (vs.length + m) (enum 0 vs) := by
  refine ⟨by simp, rfl, fun k v h => ?_⟩
  obtain ⟨_, h2⟩ := lk_enum vs 0 k v h
  have hlt : k < vs.length := by
    rcases Nat.lt_or_ge k vs.length with h' | h'
    · exact h'
    · rw [Nat.sub_zero, List.getElem?_eq_none h'] at h2; cases h2
  rw [Array.getElem?_append_left (by simpa using hlt)]
  simpa using h2

theorem nt {b : Bool} (h : b = true) : (!b) = false := by rw [h]; rfl
theorem nf {b : Bool} (h : b = false) : (!b) = true := by rw [h]; rfl

/-! ### Guards -/
def gdst (ops : Array Oper) (j : Nat) : Option Tmp := (ops[j]?).bind (·.dst)

/-- Is it carried out? (if what the frame tells decides it) -/
def wnt (ops : Array Oper) (l : List (Nat × Value)) (o : Oper) : Option Bool :=
  match o.guard with
  | none => some true
  | some (j, want) => match gdst ops j with
    | some t => match lk l t with
      | some (.bool b) => some (b == want)
      | some (.tuple _) => some false
      | _ => none
    | none => none

theorem Fr.wanted {a : Act} {n : Nat} {l : List (Nat × Value)} (F : Fr a n l) {ops : Array Oper} {o : Oper} {b : Bool} (h : wnt ops l o = some b) : Region.wanted o (yielded ops a.tmps) = b := by
  unfold wnt at h
  unfold Region.wanted
  split at h
  · rename_i hg; injection h with h; subst h; simp [hg]
  · rename_i j want hg
    simp only [hg]
    split at h
    · rename_i t ht
      split at h
      · rename_i b' hb
        injection h with h
        have : yielded ops a.tmps j = some b' := by
          unfold yielded
          unfold gdst at ht
          simp [ht, F.look t _ hb]
        rw [this, ← h]
        cases b' <;> cases want <;> rfl
      · rename_i vs hb
        injection h with h
        have : yielded ops a.tmps j = none := by
          unfold yielded
          unfold gdst at ht
          simp [ht, F.look t _ hb]
        rw [this, ← h]
        cases want <;> rfl
      · cases h
    · cases h

/-! ### What an operation does -/
/-- In every frame that tells 'l' the operation yields v and leaves w'. -/
def Fires (P : Program) (o : Oper) (n : Nat) (l : List (Nat × Value)) (w : World) (v : Value) (w' : World) : Prop :=
  ∀ a, Fr a n l → (execOp a.eval o).run P w = .ok (.value v) w'
def FiresS (P : Program) (o : Oper) (n : Nat) (l : List (Nat × Value)) (w w' : World) : Prop :=
  ∀ a, Fr a n l → (execOp a.eval o).run P w = .ok .skip w'
def FiresC (P : Program) (o : Oper) (n : Nat) (l : List (Nat × Value)) (w : World) (f : FuncId) (args : Array Value) : Prop :=
  ∀ a, Fr a n l → (execOp a.eval o).run P w = .ok (.enter f args) w

/-- A contract's post: it returns. -/
def Ret (post : Value → World → Prop) : Ending → World → Prop
  | .returned v, w => post v w
  | _, _ => False

section
variable {P : Program} {ops : Array Oper} {Q : Exit → Act → World → Prop} {a : Act} {n : Nat} {l : List (Nat × Value)} {w w' : World} {o : Oper} {rest : List Oper} {d : Nat} {v : Value}

theorem stp (F : Fr a n l) (h : Fires P o n l w v w') (hw : wnt ops l o = some true) (hd : o.dst = some d) (hn : Nat.blt d n = true)
    (k : ∀ a', Fr a' n ((d, v) :: l) → wpList P ops Q rest a' w') : wpList P ops Q (o :: rest) a w := by
  unfold wpList
  rw [if_pos (F.wanted hw)]
  refine .inl ?_
  unfold Oper.wp
  rw [h a F, Oper.upon_value, hd]
  exact k _ (F.put hn v)

theorem stpS (F : Fr a n l) (h : FiresS P o n l w w') (hw : wnt ops l o = some true) (hd : o.dst = none)
    (k : ∀ a', Fr a' n l → wpList P ops Q rest a' w') : wpList P ops Q (o :: rest) a w := by
  unfold wpList
  rw [if_pos (F.wanted hw)]
  refine .inl ?_
  unfold Oper.wp
  rw [h a F, Oper.upon_skip, hd]
  exact k _ F

theorem stpC {f : FuncId} {args : Array Value} {post : Value → World → Prop} (F : Fr a n l) (h : FiresC P o n l w f args) (hc : Calls P f args w (Ret post)) (hw : wnt ops l o = some true) (hd : o.dst = some d) (hn : Nat.blt d n = true)
    (k : ∀ v w' a', post v w' → Fr a' n ((d, v) :: l) → wpList P ops Q rest a' w') : wpList P ops Q (o :: rest) a w := by
  unfold wpList
  rw [if_pos (F.wanted hw)]
  refine .inl ?_
  unfold Oper.wp
  rw [h a F, Oper.upon_enter]
  refine hc.mono fun e w'' he => ?_
  cases e with
  | returned v => rw [hd]; exact k v w'' _ he (F.put hn v)
  | panicked c => exact he.elim
  | outgrown => exact he.elim

/-- It is not carried out. -/
theorem stpN (F : Fr a n l) (hw : wnt ops l o = some false) (hd : o.dst = some d) (hn : Nat.blt d n = true)
    (k : ∀ a', Fr a' n ((d, undef) :: l) → wpList P ops Q rest a' w) : wpList P ops Q (o :: rest) a w := by
  unfold wpList
  rw [if_neg (by rw [F.wanted hw]; simp)]
  rw [hd]
  exact k _ (F.put hn undef)

theorem stpEnd (h : Q .normal a w) : wpList P ops Q [] a w := h

/-! ### Code -/
theorem c_region {id : Nat} {L : List Oper} (h : wpList P L.toArray Q L a w) : (Code.region id L.toArray false).wp P Q a w := wp_region_lit h

theorem c_seq {x y : Code} (h : ∀ K : Act → World → Prop, (∀ a w, y.wp P Q a w → K a w) → x.wp P (Exit.then K Q) a w) : (Code.seq x y).wp P Q a w := wp_seq_k h

theorem c_true {c : Operand} {x y : Code} (F : Fr a n l) (hc : evl l c = some (.bool true)) (h : x.wp P Q a w) : (Code.cond c x y).wp P Q a w := wp_cond_true (F.eval hc) h
theorem c_false {c : Operand} {x y : Code} (F : Fr a n l) (hc : evl l c = some (.bool false)) (h : y.wp P Q a w) : (Code.cond c x y).wp P Q a w := wp_cond_false (F.eval hc) h

/-- A loop, by a number that falls. -/
theorem c_loop {c : Code} (I : Nat → Act → World → Prop) (m : Nat) (h0 : I m a w)
    (hs : ∀ m a w, I m a w → c.wp P (Exit.then (fun a' w' => ∃ m', m' < m ∧ I m' a' w') Q) a w) : (Code.loop c).wp P Q a w := wp_loop_ghost I m h0 hs
end
end Go.Proofs.Ytkbngaollbmcbaa.KK

namespace Go.Proofs.Ytkbngaollbmcbaa.KK
open Go Go.RowKit

/-! ### Memory -/
def Blk (w : World) (g : Nat) (t : TypeId) (cs : List Value) : Prop := w.heap[g]? = some (.cells cs.toArray t (0, 0))
def setBlk (w : World) (g : Nat) (t : TypeId) (cs : List Value) : World := { w with heap := w.heap.setIfInBounds g (.cells cs.toArray t (0, 0)) }
def adr (A : Option Addr) : Addr := A.getD ⟨0, 0, none⟩
/-- The k cells from a on hold v. -/
def RdAt (w : World) (a : Addr) (k : Nat) (v : Value) : Prop := v.cells.size = k ∧ ∀ j u, v.cells[j]? = some u → w.cell? (a.add j) = some u

theorem add_block (a : Addr) (n : Nat) : (a.add n).block = a.block := by unfold Addr.add; split <;> rfl
theorem add_add (a : Addr) (i j : Nat) : (a.add i).add j = a.add (i + j) := by
  unfold Addr.add
  by_cases hi : i = 0 <;> by_cases hj : j = 0 <;> simp [hi, hj, Nat.add_assoc]
theorem add_mk (g o n : Nat) : (⟨g, o, none⟩ : Addr).add n = ⟨g, o + n, none⟩ := by unfold Addr.add; split <;> simp_all

theorem add_eq {g o n r : Nat} (h : o + n = r) : (⟨g, o, none⟩ : Addr).add n = ⟨g, r, none⟩ := by rw [add_mk, h]

section
variable {P : Program} {n : Nat} {l : List (Nat × Value)} {w w' : World}

theorem Blk.lt {g : Nat} {t : TypeId} {cs : List Value} (h : Blk w g t cs) : g < w.heap.size := by
  rcases Nat.lt_or_ge g w.heap.size with hlt | hge
  · exact hlt
  · unfold Blk at h; rw [Array.getElem?_eq_none hge] at h; cases h
theorem Blk.cell {g : Nat} {t : TypeId} {cs : List Value} (h : Blk w g t cs) (i : Nat) : w.cell? ⟨g, i, none⟩ = cs[i]? := by
  unfold Blk at h; simp [World.cell?, h]
theorem Blk.frozen {g : Nat} {t : TypeId} {cs : List Value} (h : Blk w g t cs) (i : Nat) : w.frozen? ⟨g, i, none⟩ = false := by
  unfold Blk at h; simp [World.frozen?, h]
theorem Blk.new (w : World) (t : TypeId) (cs : List Value) : Blk (w.alloc (.cells cs.toArray t)) w.heap.size t cs := by
  unfold Blk; exact heap_alloc_new w _
theorem Blk.set {g : Nat} {t : TypeId} {cs : List Value} (h : Blk w g t cs) (cs' : List Value) : Blk (setBlk w g t cs') g t cs' := by
  have := h.lt
  unfold Blk setBlk; simp [this]

/-- All but the blocks of M is as it was; there may be more blocks. -/
structure Kp (M : List Nat) (w w' : World) : Prop where
  os : w'.os = w.os
  tape : w'.tape = w.tape
  output : w'.output = w.output
  size : w.heap.size ≤ w'.heap.size
  block : ∀ k, k < w.heap.size → k ∉ M → w'.heap[k]? = w.heap[k]?

variable {M M' : List Nat}
theorem Kp.refl (M : List Nat) (w : World) : Kp M w w := ⟨rfl, rfl, rfl, Nat.le_refl _, fun _ _ _ => rfl⟩
theorem Kp.trans {w1 : World} (h : Kp M w w1) (k : Kp M' w1 w') (hM : ∀ x ∈ M', x < w.heap.size → x ∈ M) : Kp M w w' :=
  ⟨k.os.trans h.os, k.tape.trans h.tape, k.output.trans h.output, Nat.le_trans h.size k.size,
    fun i hi hm => (k.block i (Nat.lt_of_lt_of_le hi h.size) (fun hx => hm (hM i hx hi))).trans (h.block i hi hm)⟩
theorem Kp.mono (h : Kp M w w') (hM : ∀ x ∈ M, x < w.heap.size → x ∈ M') : Kp M' w w' :=
  ⟨h.os, h.tape, h.output, h.size, fun i hi hm => h.block i hi (fun hx => hm (hM i hx hi))⟩
theorem Kp.alloc (w : World) (o : Obj) : Kp [] w (w.alloc o) :=
  ⟨rfl, rfl, rfl, by simp, fun k hk _ => Below.heap_alloc _ _ _ hk⟩
theorem Kp.drewN (w : World) (k : Nat) : Kp [] w (w.drewN k) := ⟨rfl, rfl, rfl, Nat.le_refl _, fun _ _ _ => rfl⟩
theorem Kp.drew (w : World) : Kp [] w w.drew := ⟨rfl, rfl, rfl, Nat.le_refl _, fun _ _ _ => rfl⟩
theorem Kp.setBlk (w : World) (g : Nat) (t : TypeId) (cs : List Value) : Kp [g] w (setBlk w g t cs) :=
  ⟨rfl, rfl, rfl, by simp [KK.setBlk], fun k hk hm => by
    have : g ≠ k := fun e => hm (by simp [e])
    simp [KK.setBlk, Array.getElem?_setIfInBounds_ne this]⟩
theorem Kp.below (h : Kp [] w w') : Below w.heap.size w w' := ⟨h.os, h.tape, h.output, h.size, fun k hk => h.block k hk (by simp)⟩
theorem Kp.of_below (h : Below w.heap.size w w') : Kp [] w w' := ⟨h.os, h.tape, h.output, h.size, fun k hk _ => h.block k hk⟩

theorem Blk.keep {g : Nat} {t : TypeId} {cs : List Value} (h : Blk w g t cs) (k : Kp M w w') (hm : g ∉ M) : Blk w' g t cs := (k.block g h.lt hm).trans h

theorem cell_keep (k : Kp M w w') {a : Addr} {v : Value} (h : w.cell? a = some v) (hm : a.block ∉ M) : w'.cell? a = some v := by
  have hlt := World.block_lt_of_cell? w a h
  rw [World.cell?_of_block (k.block a.block hlt hm)]
  exact h

theorem RdAt.keep {a : Addr} {sz : Nat} {v : Value} (h : RdAt w a sz v) (k : Kp M w w') (hm : a.block ∉ M) : RdAt w' a sz v :=
  ⟨h.1, fun j u hu => cell_keep k (h.2 j u hu) (by rw [add_block]; exact hm)⟩

/-- A slice (address A, n elements of sz cells) whose element i is f i; it lies in blocks from lo on, below hi. -/
structure Sl (w : World) (lo hi sz : Nat) (A : Option Addr) (n c : Nat) (f : Nat → Value) : Prop where
  le : n ≤ c
  some_ : 0 < n → A = some (adr A) ∧ lo ≤ (adr A).block ∧ (adr A).block < hi
  at_ : ∀ i, i < n → RdAt w ((adr A).add (i * sz)) sz (f i)

variable {lo hi sz m c : Nat} {A : Option Addr} {f : Nat → Value}
theorem Sl.keep (h : Sl w lo hi sz A m c f) (k : Kp M w w') (hm : ∀ g ∈ M, g < lo ∨ hi ≤ g) : Sl w' lo hi sz A m c f :=
  ⟨h.le, h.some_, fun i hi' => by
    obtain ⟨_, h2, h3⟩ := h.some_ (by omega)
    refine (h.at_ i hi').keep k fun hx => ?_
    rw [add_block] at hx
    rcases hm _ hx with h' | h' <;> omega⟩
theorem Sl.more {lo' hi' : Nat} (h : Sl w lo hi sz A m c f) (hl : lo' ≤ lo) (hh : hi ≤ hi') : Sl w lo' hi' sz A m c f :=
  ⟨h.le, fun hm => by obtain ⟨h1, h2, h3⟩ := h.some_ hm; exact ⟨h1, by omega, by omega⟩, h.at_⟩
theorem Sl.nil (w : World) (lo hi sz : Nat) (f : Nat → Value) : Sl w lo hi sz none 0 0 f := ⟨Nat.le_refl _, fun h => absurd h (by omega), fun _ h => absurd h (by omega)⟩
theorem Sl.congr {g : Nat → Value} (h : Sl w lo hi sz A m c f) (hg : ∀ i, i < m → f i = g i) : Sl w lo hi sz A m c g :=
  ⟨h.le, h.some_, fun i hi => hg i hi ▸ h.at_ i hi⟩
theorem Sl.of_blk {g : Nat} {t : TypeId} {cs : List Value} (h : Blk w g t cs) (hle : m ≤ c) (hlo : lo ≤ g) (hhi : g < hi)
    (hf : ∀ i, i < m → (f i).cells.size = sz ∧ ∀ j u, (f i).cells[j]? = some u → cs[i * sz + j]? = some u) : Sl w lo hi sz (some ⟨g, 0, none⟩) m c f :=
  ⟨hle, fun _ => ⟨rfl, hlo, hhi⟩, fun i hi => ⟨(hf i hi).1, fun j u hu => by
    show w.cell? (((⟨g, 0, none⟩ : Addr).add (i * sz)).add j) = _
    rw [add_mk, add_mk, h.cell, Nat.zero_add]
    exact (hf i hi).2 j u hu⟩⟩
/-- The address of 's[k:]'. -/
def cutA (A : Option Addr) (c k sz : Nat) : Option Addr := if c = k then A else A.map (·.add (k * sz))
theorem Sl.drop {k : Nat} (h : Sl w lo hi sz A m c f) (hk : k ≤ m) : Sl w lo hi sz (cutA A c k sz) (m - k) (c - k) (fun i => f (i + k)) := by
  have hle := h.le
  refine ⟨by omega, fun hp => ?_, fun i hi' => ?_⟩
  · obtain ⟨h1, h2, h3⟩ := h.some_ (by omega)
    unfold cutA
    rw [if_neg (by omega), h1]
    exact ⟨rfl, by simp only [adr, Option.map_some, Option.getD_some, add_block]; exact h2, by simp only [adr, Option.map_some, Option.getD_some, add_block]; exact h3⟩
  · obtain ⟨h1, h2, h3⟩ := h.some_ (by omega)
    have := h.at_ (i + k) (by omega)
    unfold cutA
    rw [if_neg (by omega), h1]
    simp only [adr, Option.map_some, Option.getD_some] at this ⊢
    rw [add_add, ← Nat.add_mul, Nat.add_comm k i]
    exact this
theorem Sl.take {k : Nat} (h : Sl w lo hi sz A m c f) (hk : k ≤ m) : Sl w lo hi sz A k c f :=
  ⟨by have := h.le; omega, fun hp => h.some_ (by omega), fun i hi' => h.at_ i (by omega)⟩

/-! ### Operations that touch no memory -/
theorem f_move {x : Operand} {d t p e g v} (hx : evl l x = some v) : Fires P ⟨d, .move x, t, p, e, g⟩ n l w v w := fun a F => by
  simp [execOp, F.eval hx]
theorem f_assign {x : Operand} {d t p e g v} (hx : evl l x = some v) : Fires P ⟨d, .assign x, t, p, e, g⟩ n l w v w := fun a F => by
  simp [execOp, F.eval hx]
theorem f_pickT {c x y : Operand} {d t p e g v} (hc : evl l c = some (.bool true)) (hx : evl l x = some v) : Fires P ⟨d, .pick c x y, t, p, e, g⟩ n l w v w := fun a F => by
  simp [execOp, F.eval hc, F.eval hx, asBool]
theorem f_pickF {c x y : Operand} {d t p e g v} (hc : evl l c = some (.bool false)) (hx : evl l y = some v) : Fires P ⟨d, .pick c x y, t, p, e, g⟩ n l w v w := fun a F => by
  simp [execOp, F.eval hc, F.eval hx, asBool]
theorem f_extract {x : Operand} {i : Nat} {d t p e g} {vs : List Value} {v} (hx : evl l x = some (.tuple vs.toArray)) (hv : vs[i]? = some v) : Fires P ⟨d, .extract x i, t, p, e, g⟩ n l w v w := fun a F => by
  simp [execOp, F.eval hx, Instr.extract, hv]
theorem f_nilCheck {x : Operand} {d t p e g} {ad : Addr} (hx : evl l x = some (.pointer (some ad))) : Fires P ⟨d, .nilCheck x, t, p, e, g⟩ n l w (.pointer (some ad)) w := fun a F => by
  simp [execOp, F.eval hx]
theorem f_makeFunc {fn : Fn} {first cap : List Operand} {d t p e g} {vs us : List Value} (h1 : evls l first = some vs) (h2 : evls l cap = some us) :
    Fires P ⟨d, .makeFunc fn first.toArray cap.toArray, t, p, e, g⟩ n l w (.func fn vs.toArray us.toArray) w := fun a F => by
  simp [execOp, Instr.makeFunc, F.evals h1, F.evals h2]
theorem f_not {x : Operand} {d t u p e g} {b : Bool} (hx : evl l x = some (.bool b)) : Fires P ⟨d, .unOp .not t x, u, p, e, g⟩ n l w (.bool !b) w := fun a F => by
  simp [execOp, F.eval hx, Op.unary]

section ints
variable {x y : Operand} {d : Option Nat} {t u u2 : TypeId} {p : String} {e : Array Edge} {g : Option (Nat × Bool)} {k : IntKind} {i j r : Int}
theorem f_add (hx : evl l x = some (.int k i)) (hy : evl l y = some (.int k j)) (hr : k.wrap (i + j) = r) : Fires P ⟨d, .binOp .add t x y u2, u, p, e, g⟩ n l w (.int k r) w := fun a F => by
  subst hr; simp [execOp, F.eval hx, F.eval hy, eqGuard, binOp, Op.intArith]
theorem f_sub (hx : evl l x = some (.int k i)) (hy : evl l y = some (.int k j)) (hr : k.wrap (i - j) = r) : Fires P ⟨d, .binOp .sub t x y u2, u, p, e, g⟩ n l w (.int k r) w := fun a F => by
  subst hr; simp [execOp, F.eval hx, F.eval hy, eqGuard, binOp, Op.intArith]
theorem f_mul (hx : evl l x = some (.int k i)) (hy : evl l y = some (.int k j)) (hr : k.wrap (i * j) = r) : Fires P ⟨d, .binOp .mul t x y u2, u, p, e, g⟩ n l w (.int k r) w := fun a F => by
  subst hr; simp [execOp, F.eval hx, F.eval hy, eqGuard, binOp, Op.intArith]
theorem f_lss (hx : evl l x = some (.int k i)) (hy : evl l y = some (.int k j)) : Fires P ⟨d, .binOp .lss t x y u2, u, p, e, g⟩ n l w (.bool (decide (i < j))) w := fun a F => by
  simp [execOp, F.eval hx, F.eval hy, eqGuard, binOp, Op.intCmp]
theorem f_leq (hx : evl l x = some (.int k i)) (hy : evl l y = some (.int k j)) : Fires P ⟨d, .binOp .leq t x y u2, u, p, e, g⟩ n l w (.bool (decide (i ≤ j))) w := fun a F => by
  simp [execOp, F.eval hx, F.eval hy, eqGuard, binOp, Op.intCmp]
theorem f_gtr (hx : evl l x = some (.int k i)) (hy : evl l y = some (.int k j)) : Fires P ⟨d, .binOp .gtr t x y u2, u, p, e, g⟩ n l w (.bool (decide (j < i))) w := fun a F => by
  simp [execOp, F.eval hx, F.eval hy, eqGuard, binOp, Op.intCmp]
theorem f_geq (hx : evl l x = some (.int k i)) (hy : evl l y = some (.int k j)) : Fires P ⟨d, .binOp .geq t x y u2, u, p, e, g⟩ n l w (.bool (decide (j ≤ i))) w := fun a F => by
  simp [execOp, F.eval hx, F.eval hy, eqGuard, binOp, Op.intCmp]
theorem f_eql (hx : evl l x = some (.int k i)) (hy : evl l y = some (.int k j)) : Fires P ⟨d, .binOp .eql t x y u2, u, p, e, g⟩ n l w (.bool (decide (i = j))) w := fun a F => by
  have : (i == j) = decide (i = j) := by by_cases h : i = j <;> simp [h]
  simp [this, execOp, F.eval hx, F.eval hy, eqGuard, binOp, Op.intCmp]
theorem f_neq (hx : evl l x = some (.int k i)) (hy : evl l y = some (.int k j)) : Fires P ⟨d, .binOp .neq t x y u2, u, p, e, g⟩ n l w (.bool (!decide (i = j))) w := fun a F => by
  have : (i != j) = !decide (i = j) := by by_cases h : i = j <;> simp [h]
  simp [this, execOp, F.eval hx, F.eval hy, eqGuard, binOp, Op.intCmp]
end ints

theorem f_len {x : Operand} {d s t p e g el} {A : Option Addr} {m c : Nat} (hx : evl l x = some (.slice A m c)) (hs : P.underlying s = some (.slice el)) :
    Fires P ⟨d, .call { callee := .builtin .len, args := #[x], argTypes := #[s] }, t, p, e, g⟩ n l w (.int .i64 m) w := fun a F => by
  simp [execOp, resolve, invoke, builtin, F.eval hx, Builtin.len_, run_underlying hs, goInt]

theorem f_lenStr {x : Operand} {d s t p e g} {b : ByteArray} (hx : evl l x = some (.string b)) (hs : P.underlying s = some .string) :
    Fires P ⟨d, .call { callee := .builtin .len, args := #[x], argTypes := #[s] }, t, p, e, g⟩ n l w (.int .i64 b.size) w := fun a F => by
  simp [execOp, resolve, invoke, builtin, F.eval hx, Builtin.len_, run_underlying hs, goInt]

theorem f_max {x y : Operand} {d t p e g} {ts : Array TypeId} {k : IntKind} {i j : Int} (hx : evl l x = some (.int k i)) (hy : evl l y = some (.int k j)) {r : Int} (hr : max i j = r) :
    Fires P ⟨d, .call { callee := .builtin .max, args := #[x, y], argTypes := ts }, t, p, e, g⟩ n l w (.int k r) w := fun a F => by
  subst hr
  have : (if j > i then j else i) = max i j := by rw [Int.max_def]; split <;> split <;> omega
  simp [execOp, resolve, invoke, builtin, F.eval hx, F.eval hy, Builtin.max_, Builtin.max2, this]
theorem f_min {x y : Operand} {d t p e g} {ts : Array TypeId} {k : IntKind} {i j : Int} (hx : evl l x = some (.int k i)) (hy : evl l y = some (.int k j)) {r : Int} (hr : min i j = r) :
    Fires P ⟨d, .call { callee := .builtin .min, args := #[x, y], argTypes := ts }, t, p, e, g⟩ n l w (.int k r) w := fun a F => by
  subst hr
  have : (if j < i then j else i) = min i j := by rw [Int.min_def]; split <;> split <;> omega
  simp [execOp, resolve, invoke, builtin, F.eval hx, F.eval hy, Builtin.min_, Builtin.min2, this]

theorem parts_eval {a : Act} (F : Fr a n l) : ∀ {parts : List (Nat × Operand)} {vs : List (Nat × Value)}, parts.map (fun q => (q.1, evl l q.2)) = vs.map (fun q => (q.1, some q.2)) → parts.map (fun q => (q.1, a.eval q.2)) = vs
  | [], [], _ => rfl
  | [], _ :: _, h => by simp at h
  | _ :: _, [], h => by simp at h
  | q :: r, u :: us, h => by
    simp only [List.map_cons, List.cons.injEq, Prod.mk.injEq] at h
    rw [List.map_cons, parts_eval F h.2, F.eval h.1.2, h.1.1]

theorem f_build {ty : TypeId} {parts : List (Nat × Operand)} {d t p e g} {vs : List (Nat × Value)} {v : Value} (hp : parts.map (fun q => (q.1, evl l q.2)) = vs.map (fun q => (q.1, some q.2)))
    (hv : ∀ w, (Instr.build ty vs.toArray).run P w = .ok v w) : Fires P ⟨d, .build ty parts.toArray, t, p, e, g⟩ n l w v w := fun a F => by
  simp [execOp, parts_eval F hp, hv]

theorem run_loadCellsFrom (a : Addr) (vs : List Value) : ∀ (m i : Nat) (acc : Array Value), i + m = vs.length → (∀ j u, vs[j]? = some u → w.cell? (a.add j) = some u) →
    (loadCellsFrom a i m acc).run P w = .ok (acc ++ (vs.drop i).toArray) w
  | 0, i, acc, hi, _ => by
    have : vs.drop i = [] := List.drop_eq_nil_of_le (by omega)
    simp [loadCellsFrom, this]
  | m + 1, i, acc, hi, hc => by
    have hlt : i < vs.length := by omega
    have h1 : w.cell? (a.add i) = some vs[i] := hc i _ (List.getElem?_eq_getElem hlt)
    have hd : vs.drop i = vs[i] :: vs.drop (i + 1) := List.drop_eq_getElem_cons hlt
    simp only [loadCellsFrom, load, Sem.run_bind, Sem.run, h1, Result.andThen_ok]
    rw [run_loadCellsFrom a vs m (i + 1) _ (by omega) hc, hd]
    simp

end
end Go.Proofs.Ytkbngaollbmcbaa.KK

namespace Go.Proofs.Ytkbngaollbmcbaa.KK
open Go Go.RowKit

/-! ### Regions that draw their order: one walk in the order of the text -/
inductive Kd where
  | pure | quiet | eff
  deriving DecidableEq

def kd : Op → Kd
  | .move _ | .assign _ | .pick .. | .nilCheck _ | .binOp .. | .unOp .. | .fieldAddr .. | .indexAddr .. | .index .. | .field .. | .extract .. | .makeFunc .. | .slice .. | .build .. => .pure
  | .call { callee := .builtin .len, .. } | .call { callee := .builtin .max, .. } | .call { callee := .builtin .min, .. } => .pure
  | .store .. => .eff
  | _ => .quiet

def Kd.fine : Kd → Kd → Bool
  | .pure, _ | _, .pure => true
  | .quiet, .quiet => true
  | _, _ => false

section
variable {P : Program} {ops : Array Oper} {Q : Exit → Act → World → Prop} {md : Region.Mode}

/-- What operation o does to a class of worlds. -/
def tOp1 (P : Program) (ops : Array Oper) (o : Oper) (K : (World → Prop) → Act → Prop) (C : World → Prop) (a : Act) : Prop :=
  if Region.wanted o (yielded ops a.tmps) then
    match kd o.op with
    | .pure => ∃ v, (∀ w, (execOp a.eval o).run P w = .ok (.value v) w) ∧ K C (a.put o.dst v)
    | .quiet => ∃ v, (∀ w, C w → o.quietAt P a C w v) ∧ K C (a.put o.dst v)
    | .eff => ∃ C', (∀ w, C w → ∃ w', (execOp a.eval o).run P w = .ok .skip w' ∧ C' w') ∧ K C' (a.put o.dst undef)
  else K C (a.put o.dst undef)

/-- The first m operations so; what is left one by one, in the order of the text. -/
def wpT (P : Program) (ops : Array Oper) (Q : Exit → Act → World → Prop) : Nat → List Oper → (World → Prop) → Act → Prop
  | 0, l, C, a => ∀ w, C w → wpList P ops Q l a w
  | m + 1, o :: rest, C, a => tOp1 P ops o (wpT P ops Q m rest) C a
  | _ + 1, [], C, a => ∀ w, C w → Q .normal a w

def tOp (P : Program) (ops : Array Oper) (i : Nat) (K : (World → Prop) → Act → Prop) (C : World → Prop) (a : Act) : Prop :=
  match ops[i]? with
  | none => K C a
  | some o => tOp1 P ops o K C a

theorem tOp1_mono {o : Oper} {K K' : (World → Prop) → Act → Prop} (h : ∀ C a, K C a → K' C a) {C : World → Prop} {a : Act} (hh : tOp1 P ops o K C a) : tOp1 P ops o K' C a := by
  unfold tOp1 at *
  split
  · rename_i hw
    rw [if_pos hw] at hh
    cases hk : kd o.op <;> simp only [hk] at hh ⊢
    · obtain ⟨v, h1, h2⟩ := hh; exact ⟨v, h1, h _ _ h2⟩
    · obtain ⟨v, h1, h2⟩ := hh; exact ⟨v, h1, h _ _ h2⟩
    · obtain ⟨v, h1, h2⟩ := hh; exact ⟨v, h1, h _ _ h2⟩
  · rename_i hw
    rw [if_neg hw] at hh
    exact h _ _ hh

theorem tOp_mono {i : Nat} {K K' : (World → Prop) → Act → Prop} (h : ∀ C a, K C a → K' C a) {C : World → Prop} {a : Act} (hh : tOp P ops i K C a) : tOp P ops i K' C a := by
  unfold tOp at *
  cases ho : ops[i]? with
  | none => simp only [ho] at hh ⊢; exact h _ _ hh
  | some o => simp only [ho] at hh ⊢; exact tOp1_mono h hh

/-- The first m operations are listed. -/
def done (m : Nat) (listed : Array Bool) : Prop := ∀ i, i < m → listed.getD i false = true

def wpAnyT (P : Program) (md : Region.Mode) (ops : Array Oper) (Q : Exit → Act → World → Prop) (m : Nat) : Nat → Array Bool → (World → Prop) → Act → Prop
  | 0, listed, C, a => Region.ready md ops listed = [] ∧ ∀ w, C w → Q .normal a w
  | fuel + 1, listed, C, a => (done m listed → ∀ w, C w → wpAny P md ops Q (fuel + 1) listed a w) ∧
    (¬ done m listed → (Region.ready md ops listed = [] → ∀ w, C w → Q .normal a w) ∧
      ∀ i ∈ Region.ready md ops listed, tOp P ops i (wpAnyT P md ops Q m fuel (listed.setIfInBounds i true)) C a)

theorem wpOp_of_tOp {i : Nat} {K : (World → Prop) → Act → Prop} {K' : Act → World → Prop} (h : ∀ C a, K C a → ∀ w, C w → K' a w) {C : World → Prop} {a : Act} {w : World} (hw : C w) (hh : tOp P ops i K C a) : wpOp P ops Q i K' a w := by
  unfold tOp at hh
  unfold wpOp
  cases ho : ops[i]? with
  | none => simp only [ho] at hh ⊢; exact h _ _ hh w hw
  | some o =>
    simp only [ho] at hh ⊢
    unfold tOp1 at hh
    split
    · rename_i hwt
      rw [if_pos hwt] at hh
      refine .inl ?_
      cases hk : kd o.op <;> simp only [hk] at hh
      · obtain ⟨v, h1, h2⟩ := hh
        unfold Oper.wp
        rw [h1 w, Oper.upon_value]
        exact h _ _ h2 w hw
      · exact Oper.wp_of_quiet hw (fun a w' hw' hK => h _ _ hK w' hw') hh
      · obtain ⟨C', h1, h2⟩ := hh
        obtain ⟨w', h3, h4⟩ := h1 w hw
        unfold Oper.wp
        rw [h3, Oper.upon_skip]
        exact h _ _ h2 w' h4
    · rename_i hwt
      rw [if_neg hwt] at hh
      exact h _ _ hh w hw

theorem wpAny_of_T {m : Nat} : ∀ (fuel : Nat) (listed : Array Bool) (C : World → Prop) (a : Act) (w : World), C w → wpAnyT P md ops Q m fuel listed C a → wpAny P md ops Q fuel listed a w
  | 0, _, _, _, w, hw, h => ⟨h.1, h.2 w hw⟩
  | fuel + 1, listed, _, _, w, hw, h => by
    by_cases hd : done m listed
    · exact h.1 hd w hw
    · exact ⟨fun h0 => (h.2 hd).1 h0 w hw, fun i hi => wpOp_of_tOp (fun C' a' hK w' hw' => wpAny_of_T fuel _ C' a' w' hw' hK) hw ((h.2 hd).2 i hi)⟩

/-- In class C, state a, operation o does this: the class and the state behind it. -/
def YT (P : Program) (ops : Array Oper) (o : Oper) (C : World → Prop) (a : Act) (C' : World → Prop) (v : Value) : Prop :=
  if Region.wanted o (yielded ops a.tmps) then
    match kd o.op with
    | .pure => C' = C ∧ (∀ w, (execOp a.eval o).run P w = .ok (.value v) w)
    | .quiet => C' = C ∧ (∀ w, C w → o.quietAt P a C w v)
    | .eff => v = undef ∧ (∀ w, C w → ∃ w', (execOp a.eval o).run P w = .ok .skip w' ∧ C' w')
  else C' = C ∧ v = undef

theorem YT.tOp {i : Nat} {o : Oper} (hi : ops[i]? = some o) {C C' : World → Prop} {a : Act} {v : Value} (hy : YT P ops o C a C' v) {K : (World → Prop) → Act → Prop} (h : K C' (a.put o.dst v)) : tOp P ops i K C a := by
  unfold KK.tOp
  simp only [hi]
  unfold YT at hy
  unfold tOp1
  split
  · rename_i hw
    rw [if_pos hw] at hy
    cases hk : kd o.op <;> simp only [hk] at hy ⊢
    · obtain ⟨rfl, h1⟩ := hy; exact ⟨v, h1, h⟩
    · obtain ⟨rfl, h1⟩ := hy; exact ⟨v, h1, h⟩
    · obtain ⟨rfl, h1⟩ := hy; exact ⟨C', h1, h⟩
  · rename_i hw
    rw [if_neg hw] at hy
    obtain ⟨rfl, rfl⟩ := hy
    exact h

theorem YT.of_tOp1 {o : Oper} {C : World → Prop} {a : Act} {K : (World → Prop) → Act → Prop} (h : tOp1 P ops o K C a) : ∃ C' v, YT P ops o C a C' v ∧ K C' (a.put o.dst v) := by
  unfold tOp1 at h
  unfold YT
  split at h
  · rename_i hw
    simp only [hw, if_true]
    cases hk : kd o.op <;> simp only [hk] at h ⊢
    · obtain ⟨v, h1, h2⟩ := h; exact ⟨C, v, ⟨rfl, h1⟩, h2⟩
    · obtain ⟨v, h1, h2⟩ := h; exact ⟨C, v, ⟨rfl, h1⟩, h2⟩
    · obtain ⟨C', h1, h2⟩ := h; exact ⟨C', undef, ⟨rfl, h1⟩, h2⟩
  · rename_i hw
    refine ⟨C, undef, ?_, h⟩
    rw [if_neg hw]
    exact ⟨rfl, rfl⟩

/-- The state may be another one, where the operation sees no difference. -/
theorem YT.of_same {o : Oper} {C C' : World → Prop} {a a' : Act} {v : Value} (hy : YT P ops o C a C' v) (he : execOp a'.eval o = execOp a.eval o)
    (hw : Region.wanted o (yielded ops a'.tmps) = Region.wanted o (yielded ops a.tmps)) : YT P ops o C a' C' v := by
  unfold YT Oper.quietAt at *
  rw [he, hw]
  exact hy

/-- oi may come first: oj, which was to come behind it, comes ahead. -/
theorem tOp_put {j : Nat} {oi oj : Oper} {v : Value} (hj : ops[j]? = some oj) (hap : oi.apart ops oj = true) (hfine : (kd oi.op).fine (kd oj.op) = true)
    (hsi : ∀ cs b, oi.op ≠ .select cs b) (hsj : ∀ cs b, oj.op ≠ .select cs b) {K : (World → Prop) → Act → Prop} {C Ci : World → Prop} {a : Act}
    (hy : YT P ops oi C a Ci v) (h : tOp P ops j K Ci (a.put oi.dst v)) :
    tOp P ops j (fun C' a' => ∃ Ci', YT P ops oi C' a' Ci' v ∧ K Ci' (a'.put oi.dst v)) C a := by
  obtain ⟨h1, h2, h3⟩ := Oper.apart_spec hap
  unfold tOp at h ⊢
  simp only [hj] at h ⊢
  obtain ⟨Cj, u, hyj, hK⟩ := YT.of_tOp1 h
  have hyj' : YT P ops oj Ci a Cj u := hyj.of_same (execOp_put oj hsj a oi.dst v h1).symm (wanted_put oj a oi.dst v h1).symm
  have keep : YT P ops oi C (a.put oj.dst u) Ci v := hy.of_same (execOp_put oi hsi a oj.dst u h3) (wanted_put oi a oj.dst u h3)
  have hput : (a.put oj.dst u).put oi.dst v = (a.put oi.dst v).put oj.dst u := (Act.put_comm a v u h2).symm
  have goal : ∀ C', YT P ops oj C a C' u → (∃ Ci', YT P ops oi C' (a.put oj.dst u) Ci' v ∧ K Ci' ((a.put oj.dst u).put oi.dst v)) →
      tOp1 P ops oj (fun C' a' => ∃ Ci', YT P ops oi C' a' Ci' v ∧ K Ci' (a'.put oi.dst v)) C a := by
    intro C' hC' hex
    have := YT.tOp (ops := ops) (i := j) hj hC' (K := fun C' a' => ∃ Ci', YT P ops oi C' a' Ci' v ∧ K Ci' (a'.put oi.dst v)) hex
    unfold KK.tOp at this
    simpa only [hj] using this
  rw [← hput] at hK
  -- what is known of the kinds
  by_cases hwi : Region.wanted oi (yielded ops a.tmps) = true
  · by_cases hwj : Region.wanted oj (yielded ops a.tmps) = true
    · have hwi' : Region.wanted oi (yielded ops (a.put oj.dst u).tmps) = true := by rw [wanted_put oi a oj.dst u h3]; exact hwi
      cases ki : kd oi.op with
      | pure =>
        have hyi := hy
        unfold YT at hyi
        simp only [hwi, if_true, ki] at hyi
        obtain ⟨rfl, hrun⟩ := hyi
        refine goal Cj hyj' ⟨Cj, ?_, hK⟩
        unfold YT
        simp only [hwi', if_true, ki]
        refine ⟨trivial, ?_⟩
        rw [execOp_put oi hsi a oj.dst u h3]
        exact hrun
      | quiet =>
        have hyi := hy
        unfold YT at hyi
        simp only [hwi, if_true, ki] at hyi
        obtain ⟨rfl, hrun⟩ := hyi
        have hCj : Cj = Ci := by
          unfold YT at hyj'
          simp only [hwj, if_true] at hyj'
          cases kj : kd oj.op <;> simp only [kj] at hyj'
          · exact hyj'.1
          · exact hyj'.1
          · simp [ki, kj, Kd.fine] at hfine
        subst hCj
        exact goal Cj hyj' ⟨Cj, keep, hK⟩
      | eff =>
        have hjp : kd oj.op = .pure := by
          cases kj : kd oj.op <;> simp [ki, kj, Kd.fine] at hfine ⊢
        have hyj2 := hyj'
        unfold YT at hyj2
        simp only [hwj, if_true, hjp] at hyj2
        obtain ⟨rfl, hrun⟩ := hyj2
        refine goal C ?_ ⟨Cj, keep, hK⟩
        unfold YT
        simp only [hwj, if_true, hjp]
        exact ⟨trivial, hrun⟩
    · have hyj2 := hyj'
      unfold YT at hyj2
      rw [if_neg hwj] at hyj2
      obtain ⟨rfl, rfl⟩ := hyj2
      refine goal C ?_ ⟨Cj, keep, hK⟩
      unfold YT
      rw [if_neg hwj]
      exact ⟨rfl, rfl⟩
  · have hyi := hy
    unfold YT at hyi
    rw [if_neg hwi] at hyi
    obtain ⟨rfl, rfl⟩ := hyi
    refine goal Cj hyj' ⟨Cj, ?_, hK⟩
    unfold YT
    rw [if_neg (by rw [wanted_put oi a oj.dst u h3]; exact hwi)]
    exact ⟨rfl, rfl⟩

/-- j waits for i, straight or through others. -/
def rch (md : Region.Mode) (ops : Array Oper) (i : Nat) : Nat → Nat → Bool
  | 0, _ => false
  | fuel + 1, j => match ops[j]? with
    | some oj => oj.after.any fun e => Region.binds md e && (e.on == i || rch md ops i fuel e.on)
    | none => false

theorem rch_mono {i : Nat} : ∀ {f f' j : Nat}, f ≤ f' → rch md ops i f j = true → rch md ops i f' j = true
  | 0, _, _, _, h => by simp [rch] at h
  | f + 1, 0, _, hf, _ => by omega
  | f + 1, f' + 1, j, hf, h => by
    unfold rch at h ⊢
    split at h
    · rename_i oj hoj
      obtain ⟨e, he, hb⟩ := Array.any_eq_true'.1 h
      refine Array.any_eq_true'.2 ⟨e, he, ?_⟩
      simp only [Bool.and_eq_true, Bool.or_eq_true, beq_iff_eq] at hb ⊢
      exact ⟨hb.1, hb.2.imp id (fun h => rch_mono (by omega) h)⟩
    · cases h

/-- Of each operation: what it waits for, as bits. -/
def ancs (md : Region.Mode) : List Oper → List Nat → List Nat
  | [], acc => acc
  | o :: r, acc => ancs md r (acc ++ [o.after.toList.foldl (fun m e => if Region.binds md e then m ||| ((1 <<< e.on) ||| acc.getD e.on 0) else m) 0])
theorem fold_bit {md : Region.Mode} {acc : List Nat} {i : Nat} : ∀ (es : List Edge) (m : Nat), (es.foldl (fun m e => if Region.binds md e then m ||| ((1 <<< e.on) ||| acc.getD e.on 0) else m) m).testBit i = true →
    m.testBit i = true ∨ ∃ e ∈ es, Region.binds md e = true ∧ (e.on = i ∨ (acc.getD e.on 0).testBit i = true)
  | [], m, h => .inl h
  | e :: es, m, h => by
    rw [List.foldl_cons] at h
    rcases fold_bit es _ h with h | ⟨e', h1, h2⟩
    · split at h
      · rename_i hb
        rw [Nat.testBit_or, Nat.testBit_or, Bool.or_eq_true, Bool.or_eq_true] at h
        rcases h with h | h | h
        · exact .inl h
        · refine .inr ⟨e, by simp, hb, .inl ?_⟩
          rw [Nat.one_shiftLeft, Nat.testBit_two_pow] at h
          simpa using h
        · exact .inr ⟨e, by simp, hb, .inr h⟩
      · exact .inl h
    · exact .inr ⟨e', by simp [h1], h2⟩
theorem ancs_spec {md : Region.Mode} {L : List Oper} : ∀ (r : List Oper) (acc : List Nat), (∀ j, r[j]? = L[acc.length + j]?) → (∀ j i, (acc.getD j 0).testBit i = true → rch md L.toArray i (j + 1) j = true) →
    ∀ j i, ((ancs md r acc).getD j 0).testBit i = true → rch md L.toArray i (j + 1) j = true
  | [], acc, _, h => h
  | o :: r, acc, hr, h => by
    refine ancs_spec r _ (fun j => ?_) (fun j i hb => ?_)
    · have := hr (j + 1)
      simpa [Nat.add_assoc, Nat.add_comm 1 j] using this
    · by_cases hj : j < acc.length
      · rw [List.getD_eq_getElem?_getD, List.getElem?_append_left hj, ← List.getD_eq_getElem?_getD] at hb
        exact h j i hb
      · by_cases hj2 : j = acc.length
        · subst hj2
          rw [List.getD_eq_getElem?_getD, List.getElem?_append_right (Nat.le_refl _), Nat.sub_self] at hb
          simp only [List.getElem?_cons_zero, Option.getD_some] at hb
          rcases fold_bit _ _ hb with hb | ⟨e, he, hbd, hc⟩
          · simp at hb
          · unfold rch
            have h0 : L.toArray[acc.length]? = some o := by simpa using (hr 0).symm
            simp only [h0]
            refine Array.any_eq_true'.2 ⟨e, by simpa using he, ?_⟩
            simp only [Bool.and_eq_true, Bool.or_eq_true, beq_iff_eq]
            refine ⟨hbd, hc.imp id (fun hc => ?_)⟩
            by_cases hl : e.on < acc.length
            · exact rch_mono (by omega) (h _ _ hc)
            · rw [List.getD_eq_getElem?_getD, List.getElem?_eq_none (by omega)] at hc; simp at hc
        · rw [List.getD_eq_getElem?_getD, List.getElem?_eq_none (by simp; omega)] at hb; simp at hb
theorem ancs_rch {md : Region.Mode} {L : List Oper} {i j : Nat} (hj : j < L.toArray.size) (h : ((ancs md L []).getD j 0).testBit i = true) : rch md L.toArray i L.toArray.size j = true :=
  rch_mono (by omega) (ancs_spec L [] (by simp) (fun j i h => by simp at h) j i h)

/-- What is listed waits for nothing that is not. -/
def Cl (md : Region.Mode) (ops : Array Oper) (listed : Array Bool) : Prop :=
  ∀ j oj, ops[j]? = some oj → listed.getD j false = true → ∀ e ∈ oj.after, Region.binds md e = true → listed.getD e.on false = true

theorem rch_listed {i : Nat} {listed : Array Bool} (hc : Cl md ops listed) (hi : listed.getD i false = false) : ∀ (fuel j : Nat), listed.getD j false = true → rch md ops i fuel j = false
  | 0, _, _ => rfl
  | fuel + 1, j, hj => by
    unfold rch
    split
    · rename_i oj hoj
      rw [Bool.eq_false_iff]
      intro h
      obtain ⟨e, he, hb⟩ := Array.any_eq_true'.1 h
      simp only [Bool.and_eq_true, Bool.or_eq_true, beq_iff_eq] at hb
      have hl := hc j oj hoj hj e he hb.1
      rcases hb.2 with h1 | h1
      · rw [h1, hi] at hl; cases hl
      · rw [rch_listed hc hi fuel e.on hl] at h1; cases h1
    · rfl

theorem rch_ready {i j : Nat} {listed : Array Bool} (hc : Cl md ops listed) (hi : listed.getD i false = false) (hj : j ∈ Region.ready md ops listed) (fuel : Nat) : rch md ops i fuel j = false := by
  obtain ⟨_, oj, hoj, hall⟩ := mem_ready.1 hj
  cases fuel with
  | zero => rfl
  | succ fuel =>
    unfold rch
    simp only [hoj]
    rw [Bool.eq_false_iff]
    intro h
    obtain ⟨e, he, hb⟩ := Array.any_eq_true'.1 h
    simp only [Bool.and_eq_true, Bool.or_eq_true, beq_iff_eq] at hb
    have hl := hall e he hb.1
    rcases hb.2 with h1 | h1
    · rw [h1, hi] at hl; cases hl
    · rw [rch_listed hc hi fuel e.on hl] at h1; cases h1

theorem Cl.step {j : Nat} {listed : Array Bool} (hc : Cl md ops listed) (hj : j ∈ Region.ready md ops listed) : Cl md ops (listed.setIfInBounds j true) := by
  obtain ⟨_, oj, hoj, hall⟩ := mem_ready.1 hj
  intro k ok hk hl e he hb
  refine getD_set_true ?_
  by_cases hjk : j = k
  · subst hjk
    rw [hoj] at hk; injection hk with hk; subst hk
    exact hall e he hb
  · rw [getD_set_ne false hjk] at hl
    exact hc k ok hk hl e he hb

theorem unlisted_of_ready {i : Nat} {listed : Array Bool} (hi : i ∈ Region.ready md ops listed) : listed.getD i false = false := by
  have h0 := (mem_ready.1 hi).1
  rcases Nat.lt_or_ge i listed.size with h' | h'
  · simp [h'] at h0 ⊢; exact h0
  · simp [Array.getElem?_eq_none h']

theorem wpAnyT_first {m F i : Nat} {oi : Oper} {v : Value} (him : i < m) (hi : ops[i]? = some oi) (hsel : ∀ (j : Nat) (o : Oper) cs b, ops[j]? = some o → o.op ≠ .select cs b)
    (htail : ∀ j, m ≤ j → j < ops.size → rch md ops i F j = true) :
    ∀ (fuel : Nat) (listed : Array Bool) (C Ci : World → Prop) (a : Act), Cl md ops listed →
      (∀ j oj, ops[j]? = some oj → j ≠ i → listed.getD j true = false → rch md ops i F j = false → oi.apart ops oj = true ∧ (kd oi.op).fine (kd oj.op) = true) →
      i ∈ Region.ready md ops listed → YT P ops oi C a Ci v →
      wpAnyT P md ops Q m fuel (listed.setIfInBounds i true) Ci (a.put oi.dst v) → wpAnyT P md ops Q m (fuel + 1) listed C a := by
  intro fuel
  induction fuel with
  | zero =>
    intro listed C Ci a hc _ hr hy H
    have hnd : ¬ done m listed := fun h => by have := h i him; rw [unlisted_of_ready hr] at this; cases this
    refine ⟨fun h => absurd h hnd, fun _ => ⟨fun h => (by rw [h] at hr; cases hr), fun j hj => ?_⟩⟩
    by_cases hji : j = i
    · subst hji; exact hy.tOp hi H
    · have := ready_mono hj hji
      rw [H.1] at this
      cases this
  | succ fuel ih =>
    intro listed C Ci a hc hfree hr hy H
    have hun := unlisted_of_ready hr
    have hnd : ¬ done m listed := fun h => by have := h i him; rw [hun] at this; cases this
    refine ⟨fun h => absurd h hnd, fun _ => ⟨fun h => (by rw [h] at hr; cases hr), fun j hj => ?_⟩⟩
    by_cases hji : j = i
    · subst hji; exact hy.tOp hi H
    · obtain ⟨hjun, oj, hoj, hall⟩ := mem_ready.1 hj
      have hnr := rch_ready hc hun hj F
      have hjm : j < m := by
        rcases Nat.lt_or_ge j m with h' | h'
        · exact h'
        · rw [htail j h' (Array.getElem?_eq_some_iff.1 hoj).1] at hnr; cases hnr
      have hnd2 : ¬ done m (listed.setIfInBounds i true) := fun h => by
        have h1 := h j hjm
        rw [getD_set_ne false (Ne.symm hji), unlisted_of_ready hj] at h1; cases h1
      have h1 := (H.2 hnd2).2 j (ready_mono hj hji)
      have hf := hfree j oj hoj hji hjun hnr
      have h2 := tOp_put hoj hf.1 hf.2 (fun cs b => hsel i oi cs b hi) (fun cs b => hsel j oj cs b hoj) hy h1
      have hfree' : ∀ k ok, ops[k]? = some ok → k ≠ i → (listed.setIfInBounds j true).getD k true = false → rch md ops i F k = false → oi.apart ops ok = true ∧ (kd oi.op).fine (kd ok.op) = true := fun k ok hk hki hun hno => by
        refine hfree k ok hk hki ?_ hno
        by_cases hjk : j = k
        · subst hjk; exact hjun
        · rw [getD_set_ne true hjk] at hun; exact hun
      refine tOp_mono (fun C' a' h3 => ?_) h2
      obtain ⟨Ci', h4, h5⟩ := h3
      refine ih (listed.setIfInBounds j true) C' Ci' a' (hc.step hj) hfree' (ready_mono hr (Ne.symm hji)) h4 ?_
      rw [Array.setIfInBounds_comm _ _ hji]
      exact h5

/-- The check of a region: each of the first m operations may come up in the order of the text, and whatever doesn't wait for it is apart from it and of a fitting kind; what comes behind waits for all of them, and has one order. -/
def freeT (ops : Array Oper) (T : List Nat) (m : Nat) (listed : Array Bool) (i : Nat) : Bool :=
  match ops[i]? with
  | none => false
  | some oi => (List.range ops.size).all fun j => (j == i || listed.getD j true || (T.getD j 0).testBit i || match ops[j]? with
      | some oj => oi.apart ops oj && (kd oi.op).fine (kd oj.op)
      | none => true) && (Nat.blt j m || (T.getD j 0).testBit i)

def tailT (md : Region.Mode) (ops : Array Oper) : Nat → Nat → Array Bool → Bool
  | 0, _, listed => (Region.ready md ops listed).isEmpty
  | r + 1, k, listed => Region.ready md ops listed == [k] && tailT md ops r (k + 1) (listed.setIfInBounds k true)

def lexFromT (md : Region.Mode) (ops : Array Oper) (T : List Nat) (m : Nat) : Nat → Nat → Array Bool → Bool
  | 0, k, listed => (List.range m).all (fun i => listed.getD i false) && tailT md ops (ops.size - k) k listed
  | r + 1, k, listed => (Region.ready md ops listed).contains k && freeT ops T m listed k && Nat.blt k m && lexFromT md ops T m r (k + 1) (listed.setIfInBounds k true)

def lexT (ops : Array Oper) (m : Nat) : Bool := Region.noSelect ops && lexFromT .any ops (ancs .any ops.toList []) m m 0 (Array.replicate ops.size false)

theorem wpAny_tail : ∀ (l : List Oper) (k : Nat) (listed : Array Bool) (a : Act) (w : World), (∀ j, l[j]? = ops[k + j]?) → tailT md ops l.length k listed = true → wpList P ops Q l a w → wpAny P md ops Q l.length listed a w
  | [], k, listed, a, w, _, hB, h => ⟨by simpa [tailT] using hB, h⟩
  | o :: l, k, listed, a, w, hl, hB, h => by
    simp only [List.length_cons, tailT, Bool.and_eq_true, beq_iff_eq] at hB
    have h0 : ops[k]? = some o := by simpa using (hl 0).symm
    refine wpAny_all hB.1 (by simp) fun i hi => ?_
    simp only [List.mem_singleton] at hi
    subst hi
    unfold wpOp
    simp only [h0]
    unfold wpList at h
    have hrec := fun a w => wpAny_tail l (i + 1) (listed.setIfInBounds i true) a w (fun j => by have := hl (j + 1); simpa [Nat.add_assoc, Nat.add_comm 1 j] using this) hB.2
    split
    · rename_i hw; rw [if_pos hw] at h; exact h.imp (Oper.wp_mono hrec) id
    · rename_i hw; rw [if_neg hw] at h; exact hrec _ _ h

theorem freeT_spec {T : List Nat} (hT : ∀ i j, j < ops.size → (T.getD j 0).testBit i = true → rch md ops i ops.size j = true) {m i : Nat} {oi : Oper} {listed : Array Bool} (hi : ops[i]? = some oi) (h : freeT ops T m listed i = true) :
    (∀ j oj, ops[j]? = some oj → j ≠ i → listed.getD j true = false → rch md ops i ops.size j = false → oi.apart ops oj = true ∧ (kd oi.op).fine (kd oj.op) = true) ∧
    (∀ j, m ≤ j → j < ops.size → rch md ops i ops.size j = true) := by
  simp only [freeT, hi, List.all_eq_true, List.mem_range] at h
  refine ⟨fun j oj hj hne hun hno => ?_, fun j hm hj => ?_⟩
  · have h1 := h j (Array.getElem?_eq_some_iff.1 hj).1
    rw [Bool.and_eq_true] at h1
    have hno' : (T.getD j 0).testBit i = false := Bool.eq_false_iff.2 fun hb => by rw [hT i j (Array.getElem?_eq_some_iff.1 hj).1 hb] at hno; cases hno
    simpa [hj, hne, hun, hno', -List.getD_eq_getElem?_getD] using h1.1
  · have h1 := h j hj
    rw [Bool.and_eq_true] at h1
    replace h1 := h1.2
    simp only [Bool.or_eq_true] at h1
    rcases h1 with h1 | h1
    · have : j < m := by simpa [Nat.blt_eq] using h1
      omega
    · exact hT i j hj h1

theorem wpAnyT_lex {T : List Nat} (hT : ∀ i j, j < ops.size → (T.getD j 0).testBit i = true → rch md ops i ops.size j = true) {m : Nat} (hs : Region.noSelect ops = true) : ∀ (r : Nat) (l : List Oper) (k : Nat) (listed : Array Bool) (C : World → Prop) (a : Act), k + r = m → k + l.length = ops.size → (∀ j, l[j]? = ops[k + j]?) → Cl md ops listed →
    lexFromT md ops T m r k listed = true → wpT P ops Q r l C a → wpAnyT P md ops Q m l.length listed C a
  | 0, l, k, listed, C, a, _, hk, hl, _, hB, h => by
    simp only [lexFromT, Bool.and_eq_true, List.all_eq_true, List.mem_range] at hB
    have hlen : ops.size - k = l.length := by omega
    rw [hlen] at hB
    have h' : ∀ w, C w → wpList P ops Q l a w := by cases l <;> exact h
    have ht : ∀ w, C w → wpAny P md ops Q l.length listed a w := fun w hw => wpAny_tail l k listed a w hl hB.2 (h' w hw)
    cases l with
    | nil => exact ⟨by simpa [tailT] using hB.2, fun w hw => (ht w hw).2⟩
    | cons o l => exact ⟨fun _ => ht, fun hd => absurd (fun i hi => hB.1 i hi) hd⟩
  | r + 1, [], k, listed, C, a, hkm, hk, hl, _, hB, h => by
    simp only [lexFromT, Bool.and_eq_true] at hB
    have hr : k ∈ Region.ready md ops listed := by simpa using hB.1.1.1
    obtain ⟨_, o, ho, _⟩ := mem_ready.1 hr
    have := (Array.getElem?_eq_some_iff.1 ho).1
    simp at hk; omega
  | r + 1, o :: l, k, listed, C, a, hkm, hk, hl, hc, hB, h => by
    have h0 : ops[k]? = some o := by simpa using (hl 0).symm
    simp only [List.length_cons, lexFromT, Bool.and_eq_true] at hB
    obtain ⟨⟨⟨hr, hf⟩, hkm'⟩, hB'⟩ := hB
    have hr' : k ∈ Region.ready md ops listed := by simpa using hr
    obtain ⟨C', v, hy, hK⟩ := YT.of_tOp1 (show tOp1 P ops o (wpT P ops Q r l) C a from h)
    obtain ⟨hf1, hf2⟩ := freeT_spec hT h0 hf
    exact wpAnyT_first (by simpa [Nat.blt_eq] using hkm') h0 (Region.noSelect_spec hs) hf2 l.length listed C C' a hc hf1 hr' hy
      (wpAnyT_lex hT hs r l (k + 1) _ _ _ (by omega) (by simp at hk; omega) (fun j => by have := hl (j + 1); simpa [Nat.add_assoc, Nat.add_comm 1 j] using this) (hc.step hr') hB' hK)

theorem c_draw {id : Nat} {L : List Oper} {a : Act} {w : World} (m : Nat) (hm : P.follows .mixedOrders = true) (hB : lexT L.toArray m = true) (C : World → Prop) (hC : C w.drew)
    (h : wpT P L.toArray Q m L C a) : (Code.region id L.toArray true).wp P Q a w := by
  simp only [lexT, Bool.and_eq_true] at hB
  refine wp_region_any hm (wpAny_of_T (m := m) _ _ C a _ hC ?_)
  have hcl : Cl .any L.toArray (Array.replicate L.toArray.size false) := fun j oj _ hl => by
    have h0 : (Array.replicate L.toArray.size false).getD j false = false := by
      rw [Array.getD_eq_getD_getElem?, Array.getElem?_replicate]; split <;> rfl
    rw [h0] at hl; cases hl
  have := wpAnyT_lex (P := P) (Q := Q) (md := .any) (m := m) (T := ancs .any L []) (fun i j hj h => ancs_rch hj h) hB.1 m L 0 (Array.replicate L.toArray.size false) C a (by omega) (by simp) (by simp) hcl (by simpa using hB.2) h
  simpa using this

/-! ### Its steps -/
variable {a : Act} {n : Nat} {l : List (Nat × Value)} {w w' : World} {o : Oper} {rest : List Oper} {d : Nat} {v : Value} {C : World → Prop} {m : Nat}

theorem tP (F : Fr a n l) (hk : kd o.op = .pure) (h : ∀ w, Fires P o n l w v w) (hw : wnt ops l o = some true) (hd : o.dst = some d) (hn : Nat.blt d n = true)
    (k : ∀ a', Fr a' n ((d, v) :: l) → wpT P ops Q m rest C a') : wpT P ops Q (m + 1) (o :: rest) C a := by
  unfold wpT tOp1
  rw [if_pos (F.wanted hw)]
  simp only [hk]
  refine ⟨v, fun w => h w a F, ?_⟩
  rw [hd]
  exact k _ (F.put hn v)

theorem tQ (F : Fr a n l) (hk : kd o.op = .quiet) (h : ∀ w, C w → Fires P o n l w v w) (hw : wnt ops l o = some true) (hd : o.dst = some d) (hn : Nat.blt d n = true)
    (k : ∀ a', Fr a' n ((d, v) :: l) → wpT P ops Q m rest C a') : wpT P ops Q (m + 1) (o :: rest) C a := by
  unfold wpT tOp1
  rw [if_pos (F.wanted hw)]
  simp only [hk]
  refine ⟨v, fun w hC => ?_, ?_⟩
  · unfold Oper.quietAt
    rw [h w hC a F]
    exact ⟨rfl, rfl⟩
  · rw [hd]
    exact k _ (F.put hn v)

theorem tC {f : FuncId} {args : Array Value} (F : Fr a n l) (hk : kd o.op = .quiet) (h : ∀ w, FiresC P o n l w f args) (hc : ∀ w, C w → Calls P f args w (Ret fun u w' => u = v ∧ C w')) (hw : wnt ops l o = some true) (hd : o.dst = some d) (hn : Nat.blt d n = true)
    (k : ∀ a', Fr a' n ((d, v) :: l) → wpT P ops Q m rest C a') : wpT P ops Q (m + 1) (o :: rest) C a := by
  unfold wpT tOp1
  rw [if_pos (F.wanted hw)]
  simp only [hk]
  refine ⟨v, fun w hC => ?_, ?_⟩
  · unfold Oper.quietAt
    rw [h w a F]
    refine ⟨rfl, (hc w hC).mono fun e w' he => ?_⟩
    cases e with
    | returned u => exact ⟨by rw [he.1], he.2⟩
    | panicked c => exact he.elim
    | outgrown => exact he.elim
  · rw [hd]
    exact k _ (F.put hn v)

theorem tE {C' : World → Prop} (F : Fr a n l) (hk : kd o.op = .eff) (h : ∀ w, C w → ∃ w', FiresS P o n l w w' ∧ C' w') (hw : wnt ops l o = some true) (hd : o.dst = none)
    (k : ∀ a', Fr a' n l → wpT P ops Q m rest C' a') : wpT P ops Q (m + 1) (o :: rest) C a := by
  unfold wpT tOp1
  rw [if_pos (F.wanted hw)]
  simp only [hk]
  refine ⟨C', fun w hC => ?_, ?_⟩
  · obtain ⟨w', h1, h2⟩ := h w hC
    exact ⟨w', h1 a F, h2⟩
  · rw [hd]
    exact k _ F

theorem tN (F : Fr a n l) (hw : wnt ops l o = some false) (hd : o.dst = some d) (hn : Nat.blt d n = true)
    (k : ∀ a', Fr a' n ((d, undef) :: l) → wpT P ops Q m rest C a') : wpT P ops Q (m + 1) (o :: rest) C a := by
  unfold wpT tOp1
  rw [if_neg (by rw [F.wanted hw]; simp), hd]
  exact k _ (F.put hn undef)

theorem tEnd (h : ∀ w, C w → Q .normal a w) : wpT P ops Q 0 [] C a := h
theorem tTail {l : List Oper} (h : ∀ w, C w → wpList P ops Q l a w) : wpT P ops Q 0 l C a := by cases l <;> exact h
end
end Go.Proofs.Ytkbngaollbmcbaa.KK

namespace Go.Proofs.Ytkbngaollbmcbaa.KK
open Go Go.RowKit

section
variable {P : Program} {n : Nat} {l : List (Nat × Value)} {w w' : World} {M : List Nat}

/-- The type's size, and whether it has parts. -/
abbrev SizeIs (P : Program) (t : TypeId) (sz : Nat) : Prop := ∀ w, (Go.sizeOf t).run P w = .ok sz w
abbrev AggIs (P : Program) (t : TypeId) (b : Bool) : Prop := ∀ w, (Go.isAgg t).run P w = .ok b w
abbrev ZeroIs (P : Program) (t : TypeId) (z : Value) : Prop := ∀ w, (Go.zeroValue t).run P w = .ok z w
abbrev Ent (P : Program) (f : FuncId) : Prop := ∀ args w, (callFunc f args).run P w = .ok (.enter f args) w

/-! ### Addresses -/
theorem f_fieldAddr {s : TypeId} {x : Operand} {fi sz : Nat} {d t p e g} {ad r : Addr} {fs : Array Field} {f : Field} (hx : evl l x = some (.pointer (some ad)))
    (hs : P.underlying s = some (.struct fs)) (hf : fs[fi]? = some f) (hz : SizeIs P f.type (sz + 1)) (hr : ad.add f.offset = r) :
    Fires P ⟨d, .fieldAddr s x fi, t, p, e, g⟩ n l w (.pointer (some r)) w := fun a F => by
  subst hr
  simp [execOp, F.eval hx, Instr.fieldAt, run_underlying hs, hf, Instr.sureAddr, fieldPlace, hz w]

theorem f_indexS {s el : TypeId} {x y : Operand} {d t p e g} {A : Option Addr} {m c sz : Nat} {k : IntKind} {j : Int} {r : Addr} (hx : evl l x = some (.slice A m c)) (hy : evl l y = some (.int k j))
    (hs : P.underlying s = some (.slice el)) (hz : SizeIs P el sz) (h0 : 0 ≤ j) (h1 : j < m) (hA : A = some (adr A)) (hr : (adr A).add (j.toNat * sz) = r) :
    Fires P ⟨d, .indexAddr s x y, t, p, e, g⟩ n l w (.pointer (some r)) w := fun a F => by
  subst hr
  rw [hA] at hx
  simp [execOp, F.eval hx, F.eval hy, Instr.indexAt, asIntOf, run_underlying hs, h0, h1, hz w]

theorem f_indexA {s el : TypeId} {len : Nat} {x y : Operand} {d t p e g} {ad r : Addr} {sz : Nat} {k : IntKind} {j : Int} (hx : evl l x = some (.pointer (some ad))) (hy : evl l y = some (.int k j))
    (hs : P.underlying s = some (.array len el)) (hz : SizeIs P el sz) (h0 : 0 ≤ j) (h1 : j < len) (hr : ad.add (j.toNat * sz) = r) :
    Fires P ⟨d, .indexAddr s x y, t, p, e, g⟩ n l w (.pointer (some r)) w := fun a F => by
  subst hr
  simp [execOp, F.eval hx, F.eval hy, Instr.indexAt, asIntOf, run_underlying hs, Instr.sureAddr, h0, h1, hz w]

theorem f_sliceTo {s el : TypeId} {x y : Operand} {d t p e g} {A : Option Addr} {m c sz : Nat} {k : IntKind} {j : Int} (hx : evl l x = some (.slice A m c)) (hy : evl l y = some (.int k j))
    (hs : P.underlying s = some (.slice el)) (hz : SizeIs P el sz) (h0 : 0 ≤ j) (h1 : j ≤ c) :
    Fires P ⟨d, .slice s x none (some y) none, t, p, e, g⟩ n l w (.slice A j.toNat c) w := fun a F => by
  have hA : (if c = 0 then A else A.map (·.add (0 * sz))) = A := by
    have : ∀ q : Addr, q.add 0 = q := fun q => by simp [Addr.add]
    cases A <;> simp [this]
  simp [execOp, F.eval hx, F.eval hy, Instr.sliceAt, Instr.slice, Instr.sliceBounds, Instr.sliceBound, asIntOf, run_underlying hs, h0, h1, hz w]
  simpa using hA

theorem f_sliceFrom {s el : TypeId} {x y : Operand} {d t p e g} {A : Option Addr} {m c sz : Nat} {k : IntKind} {j : Int} (hx : evl l x = some (.slice A m c)) (hy : evl l y = some (.int k j))
    (hs : P.underlying s = some (.slice el)) (hz : SizeIs P el sz) (h0 : 0 ≤ j) (h1 : j ≤ m) :
    Fires P ⟨d, .slice s x (some y) none none, t, p, e, g⟩ n l w (.slice (cutA A c j.toNat sz) (m - j.toNat) (c - j.toNat)) w := fun a F => by
  simp [execOp, F.eval hx, F.eval hy, Instr.sliceAt, Instr.slice, Instr.sliceBounds, Instr.sliceBound, asIntOf, run_underlying hs, h0, h1, hz w, cutA]

/-! ### Numbers of other kinds -/
theorem f_convI {src dst : TypeId} {x : Operand} {d t p e g} {k k' : IntKind} {i r : Int} {ds : TypeDesc} (hx : evl l x = some (.int k i)) (h1 : P.underlying src = some ds) (h2 : P.underlying dst = some (.int k')) (hr : k'.wrap i = r) :
    Fires P ⟨d, .convert src dst x, t, p, e, g⟩ n l w (.int k' r) w := fun a F => by
  subst hr
  simp [execOp, F.eval hx, Go.convert, run_underlying h1, run_underlying h2, Conv.intToInt]
theorem f_shr {x y : Operand} {d t p e g u u2} {k k2 : IntKind} {i r : Int} {j : Int} (hx : evl l x = some (.int k i)) (hy : evl l y = some (.int k2 j)) (hj : 0 ≤ j) (hr : i.fdiv (2 ^ min j.toNat k.bits) = r) :
    Fires P ⟨d, .binOp .shr t x y u2, u, p, e, g⟩ n l w (.int k r) w := fun a F => by
  subst hr
  have : ¬ j < 0 := by omega
  simp [execOp, F.eval hx, F.eval hy, eqGuard, binOp, Op.shift, this]
theorem shr1 (i : Nat) : (i : Int).fdiv (2 ^ min (Int.toNat 1) 64) = ((i / 2 : Nat) : Int) := by
  show Int.fdiv (i : Int) 2 = _
  rw [Int.fdiv_eq_ediv_of_nonneg _ (by omega)]; omega

/-! ### Loads -/
theorem f_load1 {ty : TypeId} {x : Operand} {d t p e g} {ad : Addr} {v : Value} (hx : evl l x = some (.pointer (some ad)))
    (ht : AggIs P ty false) (hc : w.cell? ad = some v) : Fires P ⟨d, .load ty x, t, p, e, g⟩ n l w v w := fun a F => by
  simp [execOp, F.eval hx, Instr.loadAt, Instr.sureAddr, loadVar, ht w, load, Sem.run, hc]

theorem f_loadN {ty : TypeId} {x : Operand} {d t p e g} {ad : Addr} {vs : Array Value} {sz : Nat} (hx : evl l x = some (.pointer (some ad)))
    (ht : AggIs P ty true) (hz : SizeIs P ty sz) (hc : RdAt w ad sz (.agg vs)) : Fires P ⟨d, .load ty x, t, p, e, g⟩ n l w (.agg vs) w := fun a F => by
  obtain ⟨h1, h2⟩ := hc
  simp only [Value.cells] at h1 h2
  have hr := run_loadCellsFrom (P := P) (w := w) ad vs.toList sz 0 #[] (by simpa using h1.symm) (by simpa using h2)
  simp [execOp, F.eval hx, Instr.loadAt, Instr.sureAddr, loadVar, ht w, hz w, loadCells, hr]

theorem RdAt.cell1 {ad : Addr} {v : Value} (h : RdAt w ad 1 v) (hv : v.cells = #[v]) : w.cell? ad = some v := by
  have := h.2 0 v (by rw [hv]; rfl)
  simpa [Addr.add] using this
theorem Sl.cell1 {lo hi : Nat} {A : Option Addr} {m c : Nat} {f : Nat → Value} (h : Sl w lo hi 1 A m c f) {i : Nat} (hi' : i < m) (hv : (f i).cells = #[f i]) {r : Addr} (hr : (adr A).add (i * 1) = r) : w.cell? r = some (f i) :=
  hr ▸ (h.at_ i hi').cell1 hv
theorem Sl.rd {lo hi sz : Nat} {A : Option Addr} {m c : Nat} {f : Nat → Value} (h : Sl w lo hi sz A m c f) {i : Nat} (hi' : i < m) {r : Addr} (hr : (adr A).add (i * sz) = r) : RdAt w r sz (f i) := hr ▸ h.at_ i hi'
theorem Blk.rd {g : Nat} {t : TypeId} {cs : List Value} (h : Blk w g t cs) {o sz : Nat} {v : Value} (hs : v.cells.size = sz) (hv : ∀ j u, v.cells[j]? = some u → cs[o + j]? = some u) : RdAt w ⟨g, o, none⟩ sz v :=
  ⟨hs, fun j u hu => by rw [add_mk, h.cell]; exact hv j u hu⟩
theorem Blk.rdAll {g : Nat} {t : TypeId} {cs : List Value} (h : Blk w g t cs) : RdAt w ⟨g, 0, none⟩ cs.length (.agg cs.toArray) :=
  h.rd (by simp [Value.cells]) (fun j u hu => by simpa [Value.cells] using hu)

/-! ### What makes memory or writes: a new world, of which this is known -/
def FiresE (P : Program) (o : Oper) (n : Nat) (l : List (Nat × Value)) (w : World) (post : Value → World → Prop) : Prop :=
  ∀ a, Fr a n l → ∃ v w', (execOp a.eval o).run P w = .ok (.value v) w' ∧ post v w'
def FiresW (P : Program) (o : Oper) (n : Nat) (l : List (Nat × Value)) (w : World) (post : World → Prop) : Prop :=
  ∀ a, Fr a n l → ∃ w', (execOp a.eval o).run P w = .ok .skip w' ∧ post w'

theorem FiresW.mono {o : Oper} {post post' : World → Prop} (h : FiresW P o n l w post) (hp : ∀ w', post w' → post' w') : FiresW P o n l w post' := fun a F => by
  obtain ⟨w', h1, h2⟩ := h a F
  exact ⟨w', h1, hp _ h2⟩

theorem stpE {ops : Array Oper} {Q : Exit → Act → World → Prop} {a : Act} {o : Oper} {rest : List Oper} {d : Nat} {post : Value → World → Prop} (F : Fr a n l) (h : FiresE P o n l w post) (hw : wnt ops l o = some true) (hd : o.dst = some d) (hn : Nat.blt d n = true)
    (k : ∀ v w' a', post v w' → Fr a' n ((d, v) :: l) → wpList P ops Q rest a' w') : wpList P ops Q (o :: rest) a w := by
  unfold wpList
  rw [if_pos (F.wanted hw)]
  refine .inl ?_
  unfold Oper.wp
  obtain ⟨v, w', h1, h2⟩ := h a F
  rw [h1, Oper.upon_value, hd]
  exact k _ _ _ h2 (F.put hn v)

theorem stpW {ops : Array Oper} {Q : Exit → Act → World → Prop} {a : Act} {o : Oper} {rest : List Oper} {post : World → Prop} (F : Fr a n l) (h : FiresW P o n l w post) (hw : wnt ops l o = some true) (hd : o.dst = none)
    (k : ∀ w' a', post w' → Fr a' n l → wpList P ops Q rest a' w') : wpList P ops Q (o :: rest) a w := by
  unfold wpList
  rw [if_pos (F.wanted hw)]
  refine .inl ?_
  unfold Oper.wp
  obtain ⟨w', h1, h2⟩ := h a F
  rw [h1, Oper.upon_skip, hd]
  exact k _ _ h2 F

theorem tW {ops : Array Oper} {Q : Exit → Act → World → Prop} {a : Act} {o : Oper} {rest : List Oper} {C C' : World → Prop} {m : Nat} (F : Fr a n l) (hk : kd o.op = .eff) (h : ∀ w, C w → FiresW P o n l w C') (hw : wnt ops l o = some true) (hd : o.dst = none)
    (k : ∀ a', Fr a' n l → wpT P ops Q m rest C' a') : wpT P ops Q (m + 1) (o :: rest) C a := by
  unfold wpT tOp1
  rw [if_pos (F.wanted hw)]
  simp only [hk]
  refine ⟨C', fun w hC => h w hC a F, ?_⟩
  rw [hd]
  exact k _ F

/-- A new block: its number, what it holds. -/
structure New (w : World) (t : TypeId) (cs : List Value) (g : Nat) (w' : World) : Prop where
  num : g = w.heap.size
  size : w'.heap.size = g + 1
  kp : Kp [] w w'
  blk : Blk w' g t cs

theorem New.mk_ (w : World) (t : TypeId) (cs : List Value) : New w t cs w.heap.size (w.alloc (.cells cs.toArray t)) :=
  ⟨rfl, by simp, Kp.alloc _ _, Blk.new _ _ _⟩

theorem f_box {el : TypeId} {x : Operand} {d t p e g v} {cs : List Value} (hx : evl l x = some v) (hc : v.cells = cs.toArray) : FiresE P ⟨d, .box el x, t, p, e, g⟩ n l w (fun v w' => ∃ g, v = .pointer (some ⟨g, 0, none⟩) ∧ New w el cs g w') := fun a F =>
  ⟨_, _, by simp [execOp, Instr.box, F.eval hx, newVar, newRow, newObj, Sem.run, hc], _, rfl, New.mk_ _ _ _⟩
theorem f_alloc {el : TypeId} {d t p e g} {z : Value} {cs : List Value} (hz : ZeroIs P el z) (hc : z.cells = cs.toArray) : FiresE P ⟨d, .alloc el, t, p, e, g⟩ n l w (fun v w' => ∃ g, v = .pointer (some ⟨g, 0, none⟩) ∧ New w el cs g w') := fun a F =>
  ⟨_, _, by simp [execOp, Instr.alloc, hz w, newVar, newRow, newObj, Sem.run, hc], _, rfl, New.mk_ _ _ _⟩
theorem f_buildSlice {ty el : TypeId} {len : Nat} {parts : List (Nat × Operand)} {d t p e g} {vs : List (Nat × Value)} {cs : List Value} (hp : parts.map (fun q => (q.1, evl l q.2)) = vs.map (fun q => (q.1, some q.2)))
    (hv : ∀ w : World, (Instr.buildSlice ty len vs.toArray).run P w = .ok (.slice (some ⟨w.heap.size, 0, none⟩) len len) (w.alloc (.cells cs.toArray el))) :
    FiresE P ⟨d, .buildSlice ty len parts.toArray, t, p, e, g⟩ n l w (fun v w' => ∃ g, v = .slice (some ⟨g, 0, none⟩) len len ∧ New w el cs g w') := fun a F =>
  ⟨_, _, by simp [execOp, parts_eval F hp, hv], _, rfl, New.mk_ _ _ _⟩

/-! ### Stores -/
/-- vs laid over cs from off on. -/
def lay (cs : List Value) (off : Nat) : List Value → List Value
  | [] => cs
  | v :: vs => lay (cs.set off v) (off + 1) vs

theorem lay_length (vs : List Value) : ∀ (cs : List Value) (off : Nat), (lay cs off vs).length = cs.length := by
  induction vs with
  | nil => intro cs off; rfl
  | cons v vs ih => intro cs off; simp [lay, ih]

def plainV : Value → Bool
  | .agg _ | .tuple _ => false
  | _ => true

/-- A block of this world now holds other cells; all else is as it was. -/
structure Wr (w : World) (g : Nat) (t : TypeId) (cs : List Value) (w' : World) : Prop where
  size : w'.heap.size = w.heap.size
  kp : Kp [g] w w'
  blk : Blk w' g t cs

theorem Wr.mk_ {g : Nat} {t : TypeId} {cs : List Value} (h : Blk w g t cs) (cs' : List Value) : Wr w g t cs' (setBlk w g t cs') :=
  ⟨by simp [setBlk], Kp.setBlk _ _ _ _, h.set cs'⟩

theorem setBlk_setBlk (w : World) (g : Nat) (t : TypeId) (cs cs' : List Value) : setBlk (setBlk w g t cs) g t cs' = setBlk w g t cs' := by
  simp [setBlk]

theorem setBlk_self {g : Nat} {t : TypeId} {cs : List Value} (h : Blk w g t cs) : setBlk w g t cs = w := by
  unfold setBlk Blk at *
  have : w.heap.setIfInBounds g (.cells cs.toArray t (0, 0)) = w.heap := by
    apply Array.ext_getElem?
    intro i
    rw [Array.getElem?_setIfInBounds]
    split
    · rename_i hgi; subst hgi; split
      · exact h.symm
      · rename_i hlt; rw [Array.getElem?_eq_none (by omega)] at h; cases h
    · rfl
  rw [this]

theorem run_storeCells {g : Nat} {t : TypeId} : ∀ (vs cs : List Value) (off i : Nat) (w : World), Blk w g t cs → off + i + vs.length ≤ cs.length → (∀ v ∈ vs, plainV v = true) →
    (storeCells ⟨g, off, none⟩ vs i).run P w = .ok () (setBlk w g t (lay cs (off + i) vs))
  | [], cs, off, i, w, hb, _, _ => by simp [storeCells, lay, setBlk_self hb]
  | v :: vs, cs, off, i, w, hb, hl, hp => by
    have h1 : w.cell? ⟨g, off + i, none⟩ = some (cs[off + i]'(by simp at hl; omega)) := by rw [hb.cell]; exact List.getElem?_eq_getElem _
    have h2 := hb.frozen (off + i)
    have hv := hp v (by simp)
    have hst : (store ((⟨g, off, none⟩ : Addr).add i) v).run P w = .ok () (setBlk w g t (cs.set (off + i) v)) := by
      rw [add_mk]
      have he : w.setCell ⟨g, off + i, none⟩ v = setBlk w g t (cs.set (off + i) v) := by
        unfold World.setCell setBlk
        congr 1
        have hlt := hb.lt
        unfold Blk at hb
        apply Array.ext_getElem?
        intro k
        rw [Array.getElem?_modify, Array.getElem?_setIfInBounds]
        by_cases hk : g = k
        · subst hk
          obtain ⟨_, hb2⟩ := Array.getElem?_eq_some_iff.1 hb
          simp [hlt, hb2]
        · simp [hk]
      cases v <;> simp_all [store, Sem.run, plainV]
    rw [storeCells, Sem.run_bind, hst, Result.andThen_ok]
    rw [run_storeCells vs (cs.set (off + i) v) off (i + 1) _ (hb.set _) (by simp at hl ⊢; omega) (fun u hu => hp u (by simp [hu]))]
    rw [setBlk_setBlk, lay, Nat.add_assoc]

theorem f_store {ty : TypeId} {x y : Operand} {d t p e g} {gb off T sz : Nat} {cs vs : List Value} {v : Value} (hx : evl l x = some (.pointer (some ⟨gb, off, none⟩))) (hy : evl l y = some v)
    (hb : Blk w gb T cs) (hz : SizeIs P ty sz) (hv : v.cells = vs.toArray) (hs : vs.length = sz) (hl : off + vs.length ≤ cs.length) (hp : ∀ u ∈ vs, plainV u = true) :
    FiresW P ⟨d, .store ty x y, t, p, e, g⟩ n l w (Wr w gb T (lay cs off vs)) := fun a F => by
  have hr := run_storeCells (P := P) vs cs off 0 w hb (by simpa using hl) hp
  rw [Nat.add_zero] at hr
  exact ⟨_, by simp [execOp, F.eval hx, F.eval hy, Instr.storeAt, Instr.sureAddr, storeVar, hz w, hv, hs, hr], Wr.mk_ hb _⟩

/-! ### Calls -/
theorem f_call {f : FuncId} {xs : List Operand} {vs : List Value} {d t p e g} {ts : Array TypeId} (hx : evls l xs = some vs) (hf : Ent P f) : FiresC P ⟨d, .call { callee := .value (.func f), args := xs.toArray, argTypes := ts }, t, p, e, g⟩ n l w f vs.toArray := fun a F => by
  simp [execOp, resolve, Act.eval, Deferred.ofValue, invoke, F.evals hx, hf vs.toArray w]

theorem f_callV {f : FuncId} {h : Operand} {xs : List Operand} {vs : List Value} {fs cb : Array Value} {d t p e g} {ts : Array TypeId} (hh : evl l h = some (.func (.func f) fs cb)) (hx : evls l xs = some vs) (hf : Ent P f) :
    FiresC P ⟨d, .call { callee := .value h, args := xs.toArray, argTypes := ts }, t, p, e, g⟩ n l w f (fs ++ vs.toArray ++ cb) := fun a F => by
  simp [execOp, resolve, F.eval hh, Deferred.ofValue, invoke, F.evals hx, hf _ w]

/-! ### Rows of the call's own -/
/-- A slice that the call made: its elements are vs; it may grow in place. -/
def Own (w : World) (base : Nat) (e : TypeId) (sz : Nat) (A : Option Addr) (c : Nat) (vs : List Value) : Prop :=
  w.ownsRow base e sz (.slice A vs.length c) vs.length (vs.flatMap fun v => v.cells.toList) ∧ (∀ v ∈ vs, v.cells.size = sz) ∧ vs.length ≤ c
def ob : Option Addr → List Nat
  | some a => [a.block]
  | none => []

theorem Own.nil (w : World) (base : Nat) (e : TypeId) (sz : Nat) : Own w base e sz none 0 [] := ⟨World.ownsRow_nil _ _ _ _, by simp, Nat.le_refl _⟩

theorem grown_of_kp (h : Kp [] w w') : w.grownBy w' none := ⟨h.os, h.tape, h.output, h.size, fun k hk _ => h.block k hk (by simp)⟩

theorem Own.keep {base e sz c : Nat} {A : Option Addr} {vs : List Value} (h : Own w base e sz A c vs) (k : Kp M w w') (hm : ∀ g ∈ ob A, g ∉ M) : Own w' base e sz A c vs := by
  refine ⟨?_, h.2.1, h.2.2⟩
  obtain ⟨h1, h2⟩ := h.1
  refine ⟨h1, ?_⟩
  rcases h2 with h2 | ⟨g, cap, cur, hv, hg, hh, r⟩
  · exact .inl h2
  · refine .inr ⟨g, cap, cur, hv, hg, ?_, r⟩
    have hA : A = some ⟨g, 0, none⟩ := by injection hv
    subst hA
    rw [k.block g (Array.getElem?_eq_some_iff.1 hh).1 (hm g (by simp [ob]))]
    exact hh

theorem Own.base_le {base e sz c : Nat} {A : Option Addr} {vs : List Value} (h : Own w base e sz A c vs) : ∀ g ∈ ob A, base ≤ g ∧ g < w.heap.size := by
  intro g hg
  rcases h.1.2 with ⟨hv, _⟩ | ⟨g', cap, cur, hv, hb, hh, _⟩
  · injection hv with hA; subst hA; simp [ob] at hg
  · injection hv with hA; subst hA; simp [ob] at hg; subst hg
    exact ⟨hb, (Array.getElem?_eq_some_iff.1 hh).1⟩

theorem Own.more {base base' e sz c : Nat} {A : Option Addr} {vs : List Value} (h : Own w base e sz A c vs) (hb : base' ≤ base) : Own w base' e sz A c vs := by
  refine ⟨⟨h.1.1, ?_⟩, h.2⟩
  rcases h.1.2 with h2 | ⟨g, cap, cur, hv, hg, r⟩
  · exact .inl h2
  · exact .inr ⟨g, cap, cur, hv, by omega, r⟩

theorem flatMap_getElem {α : Type} (f : α → List Value) (sz : Nat) : ∀ (l : List α), (∀ x ∈ l, (f x).length = sz) → ∀ (i : Nat) (x : α), l[i]? = some x → ∀ j u, (f x)[j]? = some u → (l.flatMap f)[i * sz + j]? = some u
  | [], _, i, x, h, _, _, _ => by simp at h
  | y :: l, hl, 0, x, h, j, u, hu => by
    simp at h; subst h
    rw [List.flatMap_cons, List.getElem?_append_left]
    · simpa using hu
    · have := (List.getElem?_eq_some_iff.1 hu).1; simpa using this
  | y :: l, hl, i + 1, x, h, j, u, hu => by
    have hy := hl y (by simp)
    rw [List.flatMap_cons, List.getElem?_append_right (by rw [hy, Nat.add_mul]; omega)]
    have := flatMap_getElem f sz l (fun z hz => hl z (by simp [hz])) i x (by simpa using h) j u hu
    rw [hy, ← this]
    congr 1
    rw [Nat.add_mul]; omega

theorem Own.sl {base e sz c : Nat} {A : Option Addr} {vs : List Value} (h : Own w base e sz A c vs) {f : Nat → Value} (hf : ∀ i v, vs[i]? = some v → f i = v) : Sl w base w.heap.size sz A vs.length c f := by
  obtain ⟨⟨h1, h2⟩, hc, hle⟩ := h
  refine ⟨hle, fun hp => ?_, fun i hi => ?_⟩
  · rcases h2 with ⟨_, h0⟩ | ⟨g, cap, cur, hv, hb, hh, _⟩
    · omega
    · injection hv with hA; subst hA
      exact ⟨rfl, hb, (Array.getElem?_eq_some_iff.1 hh).1⟩
  · rcases h2 with ⟨_, h0⟩ | ⟨g, cap, cur, hv, hb, hh, _, _, hcs, htk⟩
    · omega
    · injection hv with hA _ hcc; subst hA
      have hvi : vs[i]? = some vs[i] := List.getElem?_eq_getElem hi
      have hfi : f i = vs[i] := hf i _ hvi
      rw [hfi]
      refine ⟨hc _ (List.getElem_mem _), fun j u hu => ?_⟩
      show w.cell? (((⟨g, 0, none⟩ : Addr).add (i * sz)).add j) = _
      rw [add_mk, add_mk, Nat.zero_add]
      have hcell : w.cell? ⟨g, i * sz + j, none⟩ = cur[i * sz + j]? := by simp [World.cell?, hh]
      rw [hcell]
      have hx := flatMap_getElem (fun v : Value => v.cells.toList) sz vs (fun x hx => by simpa using hc x hx) i _ hvi j u (by simpa using hu)
      rw [← htk] at hx
      rw [List.getElem?_take] at hx
      split at hx
      · simpa using hx
      · cases hx

/-- append(s, x): x lies in a block of its own, just made. -/
theorem f_append1 {s x : Operand} {d t p e g} {ty el sz bytes base : Nat} {A : Option Addr} {c gx T : Nat} {vs : List Value} {v z : Value} {i : TypeInfo} (hs : evl l s = some (.slice A vs.length c)) (hx : evl l x = some (.slice (some ⟨gx, 0, none⟩) 1 1))
    (ht : P.underlying ty = some (.slice el)) (hi : P.info? el = some i) (hz : i.zero = some z) (hsize : i.size = sz) (hby : i.bytes = bytes) (hzs : z.cells.size = sz) (hsz : 0 < sz)
    (hown : Own w base el sz A c vs) (hb : Blk w gx T v.cells.toList) (hv : v.cells.size = sz) (h1 : ∀ u ∈ v.cells.toList, u.oneCell' = true)
    (hbytes : (vs.length + 1) * bytes ≤ 140737488355328) (h63 : vs.length + 1 ≤ 9223372036854775807) (hbase : base ≤ w.heap.size) :
    FiresE P ⟨d, .call { callee := .builtin .append, args := #[s, x], argTypes := #[ty, ty] }, t, p, e, g⟩ n l w
      (fun r w' => ∃ A' c', r = .slice A' (vs ++ [v]).length c' ∧ Own w' base el sz A' c' (vs ++ [v]) ∧ Kp (ob A) w w' ∧ (ob A' = ob A ∨ ob A' = [w.heap.size])) := fun a F => by
  obtain ⟨r, w', hrun, h2, h3, _, h5⟩ := run_append_own_at (P := P) w base ty t el i z sz bytes ht hi hz hsize hby hzs hsz _ _ _ hown.1 ⟨gx, 0, none⟩ 1 1 v.cells.toList (by simpa using hv)
    (fun j u hu => by rw [add_mk, hb.cell, Nat.zero_add]; exact hu) h1 (by unfold maxLen; omega) hbytes hbase
  obtain ⟨A', c', rfl⟩ : ∃ A' c', r = .slice A' (vs.length + 1) c' := by
    rcases h2.2 with ⟨rfl, h0⟩ | ⟨g, cap, cur, rfl, _⟩
    · omega
    · exact ⟨_, _, rfl⟩
  refine ⟨.slice A' (vs.length + 1) c', w', ?_, A', c', ?_, ⟨?_, ?_, ?_⟩, ?_, ?_⟩
  · simp [execOp, resolve, invoke, builtin, F.eval hs, F.eval hx, hrun]
  · simp
  · simpa using h2
  · intro u hu
    simp at hu
    rcases hu with hu | rfl
    · exact hown.2.1 u hu
    · exact hv
  · rcases h2.2 with ⟨_, h0⟩ | ⟨g, cap, cur, he, _, _, hn, _⟩
    · omega
    · injection he with _ _ hc; subst hc; simpa using hn
  · refine ⟨h3.os, h3.tape, h3.output, h3.size, fun k hk hm => h3.block k hk fun he => hm ?_⟩
    cases A with
    | none => simp [Value.ownBlock] at he
    | some q => simp [Value.ownBlock] at he; simp [ob, he]
  · cases A with
    | none =>
      cases A' with
      | none => exact .inl rfl
      | some q' =>
        refine .inr ?_
        rcases h5 with h5 | h5
        · simp [Value.ownBlock] at h5
        · simp [Value.ownBlock] at h5; simp [ob, h5]
    | some q =>
      cases A' with
      | none => rcases h5 with h5 | h5 <;> simp [Value.ownBlock] at h5
      | some q' =>
        rcases h5 with h5 | h5
        · simp [Value.ownBlock] at h5; exact .inl (by simp [ob, h5])
        · simp [Value.ownBlock] at h5; exact .inr (by simp [ob, h5])

/-! ### Begin and end -/
theorem enter {f : FuncId} {fn : Func} {c : Code} {vs : List Value} {post : Value → World → Prop} (hf : P.funcs[f]? = some fn) (hb : fn.body = some c) (hn : fn.ntmps = n) (hl : Nat.ble vs.length n = true)
    (k : ∀ a, Fr a n (enum 0 vs) → c.wp P (bodyPost P fn (Ret post)) a w) : Calls P f vs.toArray w (Ret post) := by
  refine calls_of_wp hf hb ?_
  have hl' : vs.length ≤ n := by simpa using hl
  have F := Fr.enter vs (fn.ntmps - vs.toArray.size)
  rw [hn] at F ⊢
  have : vs.length + (n - vs.toArray.size) = n := by simp; omega
  rw [this] at F
  exact k _ F
theorem ret0 {fn : Func} {post : Value → World → Prop} {a : Act} (F : Fr a n l) (hr : fn.results = #[]) (h : post (.tuple #[]) w) : bodyPost P fn (Ret post) .ret a w :=
  ⟨F.nil, _, results_none hr _ _ _, h⟩
theorem ret1 {fn : Func} {post : Value → World → Prop} {a : Act} {t : Nat} {v : Value} (F : Fr a n l) (hr : fn.results = #[.tmp t]) (hv : lk l t = some v) (h : post v w) : bodyPost P fn (Ret post) .ret a w :=
  ⟨F.nil, _, results_tmp hr _ _ _, by show post _ w; simpa [F.look _ _ hv] using h⟩
theorem ret2 {fn : Func} {post : Value → World → Prop} {a : Act} {t u : Nat} {v x : Value} (F : Fr a n l) (hr : fn.results = #[.tmp t, .tmp u]) (hv : lk l t = some v) (hx : lk l u = some x) (h : post (.tuple #[v, x]) w) : bodyPost P fn (Ret post) .ret a w :=
  ⟨F.nil, _, results_tmp2 hr _ _ _, by show post _ w; simpa [F.look _ _ hv, F.look _ _ hx] using h⟩
theorem end_ret {fn : Func} {R : Ending → World → Prop} {a : Act} (h : bodyPost P fn R .ret a w) : bodyPost P fn R .normal a w := h
end
end Go.Proofs.Ytkbngaollbmcbaa.KK
