/- Words, walks and plain laws of the statement that the last of these texts proves. -/
import Derived.Test.YtljkopbalejcgaaDoorCards
import Derived.Test.YtljkopbalejcgaaDoorTie
import Derived.Test.YtljkopbalejcgaaDoorProg
import Derived.Below
import Derived.Deep.Draws
import Derived.Deep.AppendLies
import Derived.Maps.AppendAt
import Derived.OwnWalk
import Derived.Laws.BytesArg
import Derived.Laws.MakeOwn
import Derived.Laws.OwnMore
import Derived.Deep.OwnRows
import Derived.Tactics
import Derived.Lib.ConvBytes
import Derived.Laws.Slices
import Derived.WalkKit
import Derived.KernelRfl
import Derived.RowKit3
import Derived.Deep.LoopGhost
import Derived.Deep.QuietTactic
import Derived.BigQuiet
import Derived.WideLaws
import Derived.Deep.DeepCutAuto
import Derived.Deep.CutBlock
import Derived.Deep.RegionHeld3
import Derived.Laws.Rows
import Derived.Lib.AppendStr
import Derived.ArgAppend
import Derived.Laws.IdiomCopy
import Derived.OrdersHeld
import Derived.Laws.BitsLemmas
import Derived.RowKit
import Derived.Laws.StructEq
import Derived.Shelf.Small.Strs
import Derived.Shelf.Small.Wraps
import Derived.Shelf.Strconv.Itoa0
import Derived.Shelf.Strconv.Itoa1
import Derived.Shelf.LaysM
import Derived.Shelf.Strconv.Itoa2
import Derived.Shelf.Strconv.Itoa3
import Derived.Shelf.Strings.Search1
import Derived.Shelf.Strings.Search2
import Derived.Shelf.Strings.Cut
import Derived.Shelf.Strings.Shaped
import Derived.Shelf.Strings.LastIndex
import Derived.Shelf.Strings.Prefix
import Derived.Lib.IndexBytes
import Derived.Lib.CutLaws
import Derived.RegionTactic
import Derived.ChangeAlike
import Derived.Lib.SmallJoins
import Derived.Lib.AppendIntMem
import Derived.ProofKit
import Derived.OpenShut
import Derived.ShutString
import Derived.ChangeOld
import Derived.Carry
import Derived.SizedLaws
import Derived.Deep.DeepHandedRow
import Derived.Deep.SlicePairs
import Derived.Lib.LaidTab
import Derived.LaidSub
import Derived.Lib.IndexMore
import Derived.Lib.Strings
import Derived.Lib.LastIndexByte
import Derived.RangeFuncNested
import Derived.RangeFuncBound
import Derived.RangeFuncCalls
import Derived.RangeFuncLeaves
import Derived.OwnWalkIn
import Derived.TacticsInMore
import Derived.LoopNIn
import Derived.LoopIn
import Derived.WalkMore
import Derived.ScopeJumps
import Derived.Outline
import Derived.LoopTactic
import Derived.Laws.World
import Derived.Laws.Entries
import Derived.RangeFuncBox
import Derived.Shelf.GgClosure.Gives
import Derived.Laws.EntriesVeiled
import Derived.Deep.RegionWith
import Derived.Lib.ItoaLen
namespace Go.Proofs.YtljkopbalejcgaaDoorW.PrintLast
end Go.Proofs.YtljkopbalejcgaaDoorW.PrintLast
namespace Go.Proofs.YtljkopbalejcgaaDoorW.PrintMore
end Go.Proofs.YtljkopbalejcgaaDoorW.PrintMore
namespace Go.Proofs.YtljkopbalejcgaaDoorW.PrintWords
end Go.Proofs.YtljkopbalejcgaaDoorW.PrintWords
namespace Go.Proofs.YtljkopbalejcgaaDoorW.PrintWords.Kd
end Go.Proofs.YtljkopbalejcgaaDoorW.PrintWords.Kd
section
set_option linter.unusedVariables false
set_option linter.unusedSimpArgs false
namespace Go.Proofs.YtljkopbalejcgaaDoorW.PrintWords
open Go.RowKit
structure Aside0 (p : Prop) : Prop where mk :: (out : p)
structure Drawn0 (w w' : World) : Prop where mk :: (out : ∃ n, w' = w.drewN n)
theorem Drawn0.refl (w : World) : Drawn0 w w := ⟨⟨0, rfl⟩⟩
theorem Drawn0.step {w w' : World} (h : Drawn0 w w') (n : Nat) : Drawn0 w (w'.drewN n) := by
 obtain ⟨m, rfl⟩ := h
 exact ⟨⟨m + n, World.drewN_drewN ..⟩⟩
theorem Drawn0.grown {w w' : World} (h : Drawn0 w w') : Grown w w' := by
 obtain ⟨n, rfl⟩ := h
 induction n with
 | zero => exact Grown.refl _
 | succ n ih => rw [← World.drew_drewN]; exact Grown.drew ih
theorem Drawn0.below {w w' : World} (h : Drawn0 w w') : Below w.heap.size w w' := by
 obtain ⟨n, rfl⟩ := h
 induction n with
 | zero => exact Below.refl _ _
 | succ n ih => rw [← World.drew_drewN]; exact ih.drew
def rd (xs : List Int) (i : Int) : Int := xs.getD i.toNat 0
def bt (s : ByteArray) (i : Int) : Int := if h : i.toNat < s.size then ((s[i.toNat]'h).toNat : Int) else 0
theorem bt_at (s : ByteArray) (i : Int) : ∀ h : i.toNat < s.size, ((s[i.toNat]'h).toNat : Int) = bt s i := fun h => by simp [bt, h]
theorem below_alloc {w W : World} (h : Below w.heap.size w W) (o : Obj) : Below w.heap.size w (W.alloc o) := h.alloc h.size o
theorem below_drew {B : Nat} {w W : World} (h : Below B w W) : Below B w W.drew := ⟨h.os, h.tape, h.output, h.size, h.block⟩
theorem pw_below_drewN {B : Nat} {w W : World} (h : Below B w W) (n : Nat) : Below B w (W.drewN n) := ⟨h.os, h.tape, h.output, h.size, h.block⟩
theorem below_then {B : Nat} {w w1 w2 : World} (h : Below B w w1) (hB : B ≤ w1.heap.size) (k : Below w1.heap.size w1 w2) : Below B w w2 :=
 h.trans ⟨k.os, k.tape, k.output, k.size, fun i hi => k.block i (Nat.lt_of_lt_of_le hi hB)⟩
theorem grown_of_below {w w1 : World} (h : Below w.heap.size w w1) (row : Option Nat) : w.grownBy w1 row := ⟨h.os, h.tape, h.output, h.size, fun i hi _ => h.block i hi⟩
theorem pw_cell_below {w w1 : World} (h : Below w.heap.size w w1) {a : Addr} {v : Value} (hc : w.cell? a = some v) : w1.cell? a = some v := (h.cell (World.block_lt_of_cell? w a hc)).trans hc
def ReadsInt (w : World) (k : IntKind) (A : Option Addr) (n : Nat) (xs : List Int) : Prop :=
 xs.length = n ∧ n ≤ 9223372036854775807 ∧ (0 < n → ∃ ad, A = some ad ∧ ∀ j, j < n → w.cell? (ad.add j) = some (.int k (xs.getD j 0)))
theorem ReadsInt.at_ {w : World} {k : IntKind} {A : Option Addr} {n : Nat} {xs : List Int} (h : ReadsInt w k A n xs) (i : Int) (h0 : 0 ≤ i) (h1 : i < n) : ∃ ad, A = some ad ∧ w.cell? (ad.add i.toNat) = some (.int k (rd xs i)) := by
 obtain ⟨ad, e, hc⟩ := h.2.2 (by omega)
 exact ⟨ad, e, hc _ (by omega)⟩
theorem ReadsInt.below {w w1 : World} {k : IntKind} {A : Option Addr} {n : Nat} {xs : List Int} (h : ReadsInt w k A n xs) (hb : Below w.heap.size w w1) : ReadsInt w1 k A n xs :=
 ⟨h.1, h.2.1, fun hn => by
  obtain ⟨ad, e, hc⟩ := h.2.2 hn
  exact ⟨ad, e, fun j hj => pw_cell_below hb (hc j hj)⟩⟩
theorem own_nil (W : World) (base : Nat) (e : TypeId) (size : Nat) : W.ownsRow base e size (.slice none 0 0) 0 [] := ⟨by simp, .inl ⟨rfl, rfl⟩⟩
theorem own_base {w : World} {base : Nat} {e : TypeId} {size n : Nat} {v : Value} {xs : List Value} (h : w.ownsRow base e size v n xs) (k : Nat) (hk : v.ownBlock = some k) : base ≤ k := by
 rcases h.2 with ⟨rfl, _⟩ | ⟨g, cap, cur, rfl, hb, _⟩
 ·simp [Value.ownBlock] at hk
 ·have : g = k := by simpa [Value.ownBlock] using hk
  omega
theorem own_lt {w : World} {base : Nat} {e : TypeId} {size n : Nat} {v : Value} {xs : List Value} (h : w.ownsRow base e size v n xs) (k : Nat) (hk : v.ownBlock = some k) : k < w.heap.size := by
 rcases h.2 with ⟨rfl, _⟩ | ⟨g, cap, cur, rfl, hb, hh, _⟩
 ·simp [Value.ownBlock] at hk
 ·have : g = k := by simpa [Value.ownBlock] using hk
  subst this
  exact (Array.getElem?_eq_some_iff.1 hh).1
theorem pw_own_below {w w1 : World} {base : Nat} {e : TypeId} {size n : Nat} {v : Value} {xs : List Value} (h : w.ownsRow base e size v n xs) (hb : Below w.heap.size w w1) : w1.ownsRow base e size v n xs :=
 h.kept (grown_of_below hb none) (by cases v.ownBlock <;> simp)
theorem own_other {w w1 : World} {base : Nat} {e : TypeId} {size n : Nat} {v : Value} {xs : List Value} (h : w.ownsRow base e size v n xs) {row : Option Nat} (hg : w.grownBy w1 row) (hne : v.ownBlock = none ∨ v.ownBlock ≠ row) : w1.ownsRow base e size v n xs := h.kept hg hne
def LeO {α : Type} (a b : Option α) : Prop := ∀ r, a = some r → b = some r
theorem LeO.refl {α : Type} (a : Option α) : LeO a a := fun _ h => h
theorem LeO.none {α : Type} (b : Option α) : LeO Option.none b := fun _ h => by cases h
theorem LeO.trans {α : Type} {a b c : Option α} (h : LeO a b) (k : LeO b c) : LeO a c := fun r hr => k r (h r hr)
theorem LeO.ite {α : Type} {c : Prop} [Decidable c] {a a' b b' : Option α} (h : LeO a a') (k : LeO b b') : LeO (if c then a else b) (if c then a' else b') := by
 split
 ·exact h
 ·exact k
theorem LeO.bind {α β : Type} {a a' : Option α} {f f' : α → Option β} (h : LeO a a') (k : ∀ x, LeO (f x) (f' x)) : LeO (a.bind f) (a'.bind f') := by
 intro r hr
 obtain ⟨x, hx, hf⟩ := Option.bind_eq_some_iff.1 hr
 exact Option.bind_eq_some_iff.2 ⟨x, h x hx, k x r hf⟩
theorem LeO.map {α β : Type} {a a' : Option α} (f : α → β) (h : LeO a a') : LeO (a.map f) (a'.map f) := by
 intro r hr
 obtain ⟨x, hx, hf⟩ := Option.map_eq_some_iff.1 hr
 exact Option.map_eq_some_iff.2 ⟨x, h x hx, hf⟩
theorem more_rounds {α : Type} {g : Nat → Option α} (h : ∀ k, LeO (g k) (g (k + 1))) (k : Nat) : ∀ j, LeO (g k) (g (k + j))
 | 0 => LeO.refl _
 | j + 1 => (more_rounds h k j).trans (h (k + j))
theorem at_rounds {α : Type} {g : Nat → Option α} (h : ∀ k, LeO (g k) (g (k + 1))) {k k' : Nat} (hk : k ≤ k') {r : α} (hr : g k = some r) : g k' = some r := by
 have := more_rounds h k (k' - k) r hr
 rwa [Nat.add_sub_cancel' hk] at this
def Reps {α : Type} (R : α → List Value → Prop) (size : Nat) (ps : List α) (cs : List Value) : Prop :=
 cs.length = ps.length * size ∧ ∀ j p, ps[j]? = some p → R p ((cs.drop (j * size)).take size)
theorem Reps.none {α : Type} (R : α → List Value → Prop) (size : Nat) : Reps R size [] [] := ⟨by simp, fun j p h => by simp at h⟩
theorem Reps.snoc {α : Type} {R : α → List Value → Prop} {size : Nat} {ps : List α} {cs c : List Value} {p : α} (h : Reps R size ps cs) (hp : R p c) (hc : c.length = size) : Reps R size (ps ++ [p]) (cs ++ c) := by
 refine ⟨by rw [List.length_append, h.1, hc, List.length_append, List.length_singleton, Nat.add_mul, Nat.one_mul], fun j q hq => ?_⟩
 rcases Nat.lt_or_ge j ps.length with hj | hj
 ·rw [List.getElem?_append_left hj] at hq
  have h1 : j * size + size ≤ cs.length := by rw [h.1, ← Nat.succ_mul]; exact Nat.mul_le_mul_right _ hj
  have h2 := h.2 j q hq
  rw [List.drop_append_of_le_length (by omega), List.take_append_of_le_length (by rw [List.length_drop]; omega)]
  exact h2
 ·have hj' : j = ps.length := by
   have := (List.getElem?_eq_some_iff.1 hq).1
   rw [List.length_append, List.length_singleton] at this
   omega
  subst hj'
  have hq' : p = q := by simpa using hq
  subst hq'
  rw [← h.1, List.drop_left, ← hc, List.take_length]
  exact hp
theorem Reps.imp_ {α : Type} {R R' : α → List Value → Prop} {size : Nat} {ps : List α} {cs : List Value} (h : Reps R size ps cs) (hR : ∀ p c, R p c → R' p c) : Reps R' size ps cs := ⟨h.1, fun j p hj => hR _ _ (h.2 j p hj)⟩
def ReadsRow {α : Type} (R : α → List Value → Prop) (size : Nat) (w : World) (A : Option Addr) (n : Nat) (ps : List α) : Prop :=
 ps.length = n ∧ n ≤ 9223372036854775807 ∧ (0 < n → ∃ ad, A = some ad ∧ ∀ j p, ps[j]? = some p → ∃ c, c.length = size ∧ R p c ∧ ∀ i u, c[i]? = some u → w.cell? (ad.add (j * size + i)) = some u)
theorem ReadsRow.get_ {α : Type} {R : α → List Value → Prop} {size : Nat} {w : World} {A : Option Addr} {n : Nat} {ps : List α} (h : ReadsRow R size w A n ps) (d : α) (i : Int) (h0 : 0 ≤ i) (h1 : i < n) :
  ∃ ad c, A = some ad ∧ c.length = size ∧ R (ps.getD i.toNat d) c ∧ ∀ j u, c[j]? = some u → w.cell? (ad.add (i.toNat * size + j)) = some u := by
 obtain ⟨ad, e, hc⟩ := h.2.2 (by omega)
 have hl : i.toNat < ps.length := by have := h.1; omega
 obtain ⟨c, hs, hr, hcell⟩ := hc i.toNat _ (List.getElem?_eq_getElem hl)
 refine ⟨ad, c, e, hs, ?_, hcell⟩
 rw [List.getD_eq_getElem?_getD, List.getElem?_eq_getElem hl]
 exact hr
theorem ReadsRow.imp_ {α : Type} {R R' : α → List Value → Prop} {size : Nat} {w w1 : World} {A : Option Addr} {n : Nat} {ps : List α} (h : ReadsRow R size w A n ps) (hb : Below w.heap.size w w1) (hR : ∀ p c, R p c → R' p c) : ReadsRow R' size w1 A n ps :=
 ⟨h.1, h.2.1, fun hn => by
  obtain ⟨ad, e, hc⟩ := h.2.2 hn
  refine ⟨ad, e, fun j p hj => ?_⟩
  obtain ⟨c, hs, hr, hcell⟩ := hc j p hj
  exact ⟨c, hs, hR _ _ hr, fun i u hu => pw_cell_below hb (hcell i u hu)⟩⟩
theorem own_reads_row {α : Type} {R : α → List Value → Prop} {w : World} {base n size : Nat} {e : TypeId} {v : Value} {ps : List α} {cs : List Value} (h : w.ownsRow base e size v n cs) (hR : Reps R size ps cs) (hn : ps.length = n) :
  ∃ A c, v = .slice A n c ∧ ReadsRow R size w A n ps := by
 rcases Nat.eq_zero_or_pos n with h0 | h0
 ·rcases h.2 with ⟨rfl, rfl⟩ | ⟨g, cap, cur, rfl, _⟩
  ·exact ⟨none, 0, rfl, hn, by omega, fun hp => absurd hp (by omega)⟩
  ·exact ⟨_, cap, rfl, hn, by omega, fun hp => absurd hp (by omega)⟩
 ·obtain ⟨g, cap, rfl, _, _⟩ := h.form h0
  have hm : n ≤ 9223372036854775807 := by
   rcases h.2 with ⟨_, h1⟩ | ⟨g', cap', cur, he, _, _, h1, h2, _⟩
   ·omega
   ·simp only [maxLen] at h2
    omega
  refine ⟨_, cap, rfl, hn, hm, fun _ => ⟨_, rfl, fun j p hj => ⟨(cs.drop (j * size)).take size, ?_, hR.2 j p hj, fun i u hu => ?_⟩⟩⟩
  ·have hjl := (List.getElem?_eq_some_iff.1 hj).1
   have h1 : j * size + size ≤ cs.length := by rw [hR.1, ← Nat.succ_mul]; exact Nat.mul_le_mul_right _ hjl
   rw [List.length_take, List.length_drop]
   omega
  ·refine h.cells (g := g) rfl _ u ?_
   rw [List.getElem?_take] at hu
   split at hu
   ·rw [List.getElem?_drop] at hu
    exact hu
   ·cases hu
theorem add_field (ad : Addr) (m j : Nat) (hj : 0 < j) : ad.add (m + j) = ⟨(ad.add m).block, (ad.add m).off + j, none⟩ := by
 unfold Addr.add
 by_cases hm : m = 0
 ·subst hm
  simp [Nat.ne_of_gt hj]
 ·simp [hm, Nat.add_assoc]
section
variable {P : Program} {ops : Array Oper} {rest : List Oper} {o : Oper} {a : Act} {Q : Exit → Act → World → Prop}
theorem print_append_cells {w0 W : World} (base : Nat) (hgd : o.guard = none) (s x : Operand) (t e : TypeId) (z : Value) (size bytes : Nat)
  (ho : o.op = .call { callee := .builtin .append, args := #[s, x], argTypes := #[t, t] })
  (ht : P.underlying t = some (.slice e)) (hinfo : (P.info? e).map (fun i => (i.zero, i.size, i.bytes)) = some (some z, size, bytes)) (hz : z.cells.size = size) (hs0 : 0 < size) (hb0 : 0 < bytes)
  (v : Value) (n : Nat) (xs ys : List Value) (hs : a.eval s = v) (hx : a.eval x = .slice (some ⟨W.heap.size, 0, none⟩) 1 1) (hys : ys.length = size) (h1 : ∀ u ∈ ys, u.oneCell' = true)
  (HO : W.ownsRow base e size v n xs) (HB : Below base w0 W) (hbase : base ≤ W.heap.size) (hl : (n + 1) * bytes ≤ 140737488355328)
  (h : ∀ v1 w1, w1.ownsRow base e size v1 (n + 1) (xs ++ ys) → Below base w0 w1 → W.grownBy w1 v.ownBlock → (v1.ownBlock = v.ownBlock ∨ ∃ b, v1.ownBlock = some b ∧ W.heap.size ≤ b) → wpList P ops Q rest (a.put o.dst v1) w1) :
  wpList P ops Q (o :: rest) a (W.alloc (.cells ys.toArray e)) := by
 obtain ⟨i0, hi, hzz⟩ := Option.map_eq_some_iff.1 hinfo
 simp only [Prod.mk.injEq] at hzz
 obtain ⟨hz0, hz1, hz2⟩ := hzz
 have hlen : n + 1 ≤ 140737488355328 := Nat.le_trans (Nat.le_mul_of_pos_right _ hb0) hl
 refine wpList_append_own_at (W.alloc (.cells ys.toArray e)) hgd s x t ho base e i0 z size bytes ht hi hz0 hz1 hz2 hz hs0 v n xs hs (HO.alloc _) ⟨W.heap.size, 0, none⟩ 1 1 ys hx (by rw [hys]; simp)
  (by simpa using World.news_of_block (cs := ys.toArray) (t := e) (fr := (0, 0)) (heap_alloc_new W (.cells ys.toArray e))) h1 (by simp only [maxLen]; omega) hl (by simp; omega) ?_
 intro v1 w1 hown hg _ hat
 refine h v1 w1 hown ((HB.alloc hbase _).grown hg (by simp; omega) (own_base HO)) (World.grownBy.trans (World.grownBy_alloc W _ _) hg) ?_
 rcases hat with hat | hat
 ·exact .inl hat
 ·exact .inr ⟨_, hat, by simp⟩
end
theorem blk_set {w : World} {g : Nat} {t : TypeId} {cs : Array Value} (h : w.heap[g]? = some (.cells cs t (0, 0))) (i : Nat) (u : Value) : (w.setCell ⟨g, i, none⟩ u).heap[g]? = some (.cells (cs.setIfInBounds i u) t (0, 0)) := by
 simp [World.setCell, Array.getElem?_modify, h]
theorem blk_far {w : World} {g : Nat} {t : TypeId} {cs : Array Value} (h : w.heap[g]? = some (.cells cs t (0, 0))) {p : Addr} (hp : g ≠ p.block) (u : Value) : (w.setCell p u).heap[g]? = some (.cells cs t (0, 0)) := (Below.heap_setCell w p u g hp).trans h
theorem blk_lt {w : World} {g : Nat} {o : Obj} (h : w.heap[g]? = some o) : g < w.heap.size := (Array.getElem?_eq_some_iff.1 h).1
theorem blk_cell {w : World} {g : Nat} {t : TypeId} {cs : Array Value} (h : w.heap[g]? = some (.cells cs t (0, 0))) (i : Nat) : w.cell? ⟨g, i, none⟩ = cs[i]? := cell_of_row w g i cs t (0, 0) h
theorem blk_frozen {w : World} {g : Nat} {t : TypeId} {cs : Array Value} (h : w.heap[g]? = some (.cells cs t (0, 0))) (i : Nat) : w.frozen? ⟨g, i, none⟩ = false := by simp [World.frozen?, h]
theorem blk_grown {w w1 : World} {g : Nat} {o : Obj} {row : Option Nat} (h : w.heap[g]? = some o) (hg : w.grownBy w1 row) (hne : some g ≠ row) : w1.heap[g]? = some o := (hg.block g (blk_lt h) hne).trans h
def KeepBut (w w' : World) (g : Nat) (row : Option Nat) : Prop := w.heap.size ≤ w'.heap.size ∧ ∀ i, i < w.heap.size → i ≠ g → some i ≠ row → w'.heap[i]? = w.heap[i]?
theorem KeepBut.refl (w : World) (g : Nat) (row : Option Nat) : KeepBut w w g row := ⟨Nat.le_refl _, fun _ _ _ _ => rfl⟩
theorem KeepBut.of_below {w w1 : World} (h : Below w.heap.size w w1) (g : Nat) (row : Option Nat) : KeepBut w w1 g row := ⟨h.size, fun i hi _ _ => h.block i hi⟩
theorem KeepBut.trans {w w1 w2 : World} {g : Nat} {row row1 : Option Nat} (h : KeepBut w w1 g row) (k : KeepBut w1 w2 g row1) (hr : row1 = row ∨ ∃ b, row1 = some b ∧ w.heap.size ≤ b) : KeepBut w w2 g row :=
 ⟨Nat.le_trans h.1 k.1, fun i hi hg hn => by
  refine (k.2 i (Nat.lt_of_lt_of_le hi h.1) hg ?_).trans (h.2 i hi hg hn)
  rcases hr with rfl | ⟨b, rfl, hb⟩
  ·exact hn
  ·intro e
   injection e with e
   omega⟩
theorem KeepBut.blk {w w1 : World} {g g' : Nat} {row : Option Nat} {o : Obj} (h : KeepBut w w1 g row) (hb : w.heap[g']? = some o) (hg : g' ≠ g) (hr : some g' ≠ row) : w1.heap[g']? = some o := (h.2 g' (blk_lt hb) hg hr).trans hb
theorem KeepBut.own {w w1 : World} {g : Nat} {row : Option Nat} {base : Nat} {e : TypeId} {size n : Nat} {v : Value} {xs : List Value} (h : KeepBut w w1 g row) (ho : w.ownsRow base e size v n xs) (hg : v.ownBlock ≠ some g) (hr : v.ownBlock = none ∨ v.ownBlock ≠ row) : w1.ownsRow base e size v n xs := by
 obtain ⟨h1, h2⟩ := ho
 refine ⟨h1, ?_⟩
 rcases h2 with h2 | ⟨b, cap, cur, rfl, hb, hh, r⟩
 ·exact .inl h2
 ·refine .inr ⟨b, cap, cur, rfl, hb, h.blk hh ?_ ?_, r⟩
  ·intro e
   exact hg (by rw [← e]; rfl)
  ·rcases hr with hr | hr
   ·simp [Value.ownBlock] at hr
   ·exact hr
def Ev {α : Type} (g : Nat → Option α) (r : α) : Prop := ∃ K, ∀ k, K ≤ k → g k = some r
theorem Ev.of {α : Type} {g : Nat → Option α} {r : α} (hg : ∀ k, LeO (g k) (g (k + 1))) {k : Nat} (h : g k = some r) : Ev g r := ⟨k, fun _ hk => at_rounds hg hk h⟩
theorem Ev.bind {α β : Type} {g : Nat → Option α} {f : Nat → α → Option β} {a : α} {r : β} (h : Ev g a) (k : Ev (fun n => f n a) r) : Ev (fun n => (g n).bind (f n)) r := by
 obtain ⟨K, h⟩ := h
 obtain ⟨K', k⟩ := k
 refine ⟨max K K', fun n hn => ?_⟩
 have h1 := h n (by omega)
 have h2 := k n (by omega)
 simp only [h1, Option.bind_some]
 exact h2
theorem Ev.step {α : Type} {g f : Nat → Option α} {r : α} (h : ∀ k, g (k + 1) = f k) (k : Ev f r) : Ev g r := by
 obtain ⟨K, k⟩ := k
 refine ⟨K + 1, fun n hn => ?_⟩
 obtain ⟨m, rfl⟩ : ∃ m, n = m + 1 := ⟨n - 1, by omega⟩
 rw [h]
 exact k m (by omega)
theorem Ev.congr {α : Type} {g f : Nat → Option α} {r : α} (h : ∀ k, g k = f k) (k : Ev f r) : Ev g r := by
 obtain ⟨K, k⟩ := k
 exact ⟨K, fun n hn => (h n).trans (k n hn)⟩
theorem own_weaken {w : World} {base base' : Nat} {e : TypeId} {size n : Nat} {v : Value} {xs : List Value} (h : w.ownsRow base e size v n xs) (hb : base' ≤ base) : w.ownsRow base' e size v n xs := by
 obtain ⟨h1, h2⟩ := h
 refine ⟨h1, ?_⟩
 rcases h2 with h2 | ⟨g, cap, cur, rfl, hg, r⟩
 ·exact .inl h2
 ·exact .inr ⟨g, cap, cur, rfl, Nat.le_trans hb hg, r⟩
section
variable {α : Type} {enc : α → Value} {d : α}
def encs (enc : α → Value) (xs : List α) : List Value := xs.map enc
def rdOf (d : α) (xs : List α) (i : Int) : α := xs.getD i.toNat d
def ReadsOf (enc : α → Value) (d : α) (w : World) (A : Option Addr) (n : Nat) (xs : List α) : Prop :=
 xs.length = n ∧ n ≤ 9223372036854775807 ∧ (0 < n → ∃ ad, A = some ad ∧ ∀ j, j < n → w.cell? (ad.add j) = some (enc (xs.getD j d)))
theorem ReadsOf.at_ {w : World} {A : Option Addr} {n : Nat} {xs : List α} (h : ReadsOf enc d w A n xs) (i : Int) (h0 : 0 ≤ i) (h1 : i < n) : ∃ ad, A = some ad ∧ w.cell? (ad.add i.toNat) = some (enc (rdOf d xs i)) := by
 obtain ⟨ad, e, hc⟩ := h.2.2 (by omega)
 exact ⟨ad, e, hc _ (by omega)⟩
theorem ReadsOf.below {w w1 : World} {A : Option Addr} {n : Nat} {xs : List α} (h : ReadsOf enc d w A n xs) (hb : Below w.heap.size w w1) : ReadsOf enc d w1 A n xs :=
 ⟨h.1, h.2.1, fun hn => by
  obtain ⟨ad, e, hc⟩ := h.2.2 hn
  exact ⟨ad, e, fun j hj => pw_cell_below hb (hc j hj)⟩⟩
end
theorem blk_alloc {w : World} {g : Nat} {o : Obj} (h : w.heap[g]? = some o) (o' : Obj) : (w.alloc o').heap[g]? = some o := (Below.heap_alloc w o' g (blk_lt h)).trans h
theorem blk_drew {w : World} {g : Nat} {o : Obj} (h : w.heap[g]? = some o) : w.drew.heap[g]? = some o := h
theorem blk_drewN {w : World} {g : Nat} {o : Obj} (h : w.heap[g]? = some o) (n : Nat) : (w.drewN n).heap[g]? = some o := h
theorem blk_below {w w1 : World} {g : Nat} {o : Obj} (h : w.heap[g]? = some o) (hb : Below w.heap.size w w1) : w1.heap[g]? = some o := (hb.block g (blk_lt h)).trans h
theorem blk_new (w : World) (o : Obj) : (w.alloc o).heap[w.heap.size]? = some o := heap_alloc_new w o
section
variable {P : Program}
theorem results_ct {fn : Func} {p u : Tmp} {ty : TypeId} (h : fn.results = #[.cell p ty, .tmp u]) (tmps : Array Value) (w : World) (g : Nat) (t : TypeId) (cs : Array Value) (fr : Nat × Nat) (d : TypeDesc)
  (hp : tmps.getD p undef = .pointer (some ⟨g, 0, none⟩)) (hg : w.heap[g]? = some (.cells cs t fr))
  (hu : P.underlying ty = some d) (hd : (match d with | .struct _ | .array _ _ => true | _ => false) = true) (hi : (P.info? ty).map (·.size) = some cs.size) :
  (results fn tmps).run P w = .ok (.tuple #[.agg cs, tmps.getD u undef]) w := by
 have hp' : tmps[p]?.getD undef = .pointer (some ⟨g, 0, none⟩) := by simpa using hp
 simp [results, h, hp', asAddr, run_loadVar_row w g t ty cs fr d hg hu hd hi]
end
theorem own_le {w : World} {base n m c size : Nat} {e : TypeId} {A : Option Addr} {xs : List Value} (h : w.ownsRow base e size (.slice A m c) n xs) : m ≤ c := by
 rcases h.2 with ⟨he, _⟩ | ⟨g, cap, cur, he, _, _, hnc, _⟩
 ·injection he with _ h2 h3
  omega
 ·injection he with _ h2 h3
  omega
def OwnRow {α : Type} (R : α → List Value → Prop) (e : TypeId) (size : Nat) (w : World) (base : Nat) (v : Value) (ps : List α) : Prop :=
 ∃ inner, w.ownsRow base e size v ps.length inner ∧ Reps R size ps inner
section
variable {α : Type} {R R' : α → List Value → Prop} {e : TypeId} {size : Nat} {w w1 : World} {base : Nat} {v : Value} {ps : List α}
theorem OwnRow.none_ (R : α → List Value → Prop) (e : TypeId) (size : Nat) (w : World) (base : Nat) : OwnRow R e size w base (.slice none 0 0) [] := ⟨[], own_nil _ _ _ _, Reps.none _ _⟩
theorem OwnRow.imp_ (h : OwnRow R e size w base v ps) (hR : ∀ p c, R p c → R' p c) : OwnRow R' e size w base v ps := by
 obtain ⟨inner, ho, hr⟩ := h
 exact ⟨inner, ho, hr.imp_ hR⟩
theorem OwnRow.below (h : OwnRow R e size w base v ps) (hb : Below w.heap.size w w1) : OwnRow R e size w1 base v ps := by
 obtain ⟨inner, ho, hr⟩ := h
 exact ⟨inner, pw_own_below ho hb, hr⟩
theorem OwnRow.other (h : OwnRow R e size w base v ps) {row : Option Nat} (hg : w.grownBy w1 row) (hne : v.ownBlock = none ∨ v.ownBlock ≠ row) : OwnRow R e size w1 base v ps := by
 obtain ⟨inner, ho, hr⟩ := h
 exact ⟨inner, own_other ho hg hne, hr⟩
theorem OwnRow.lower (h : OwnRow R e size w base v ps) {base' : Nat} (hb : base' ≤ base) : OwnRow R e size w base' v ps := by
 obtain ⟨inner, ho, hr⟩ := h
 exact ⟨inner, own_weaken ho hb, hr⟩
theorem OwnRow.reads (h : OwnRow R e size w base v ps) : ∃ A c, v = .slice A ps.length c ∧ ps.length ≤ c ∧ ReadsRow R size w A ps.length ps := by
 obtain ⟨inner, ho, hr⟩ := h
 obtain ⟨A, c, rfl, hrow⟩ := own_reads_row ho hr rfl
 exact ⟨A, c, rfl, own_le ho, hrow⟩
theorem OwnRow.lit (W : World) (base : Nat) {inner : List Value} (hr : Reps R size ps inner) (hb : base ≤ W.heap.size) (hm : ps.length ≤ 9223372036854775807) :
  OwnRow R e size (W.alloc (.cells inner.toArray e)) base (.slice (some ⟨W.heap.size, 0, none⟩) ps.length ps.length) ps := by
 have h := World.ownsRow_lit (base := base) (e := e) (size := size) W inner.toArray ps.length hb (by simpa [maxLen] using hm) (by simpa using hr.1)
 exact ⟨inner, by simpa using h, hr⟩
end
section
variable {P : Program} {ops : Array Oper} {rest : List Oper} {o : Oper} {a : Act} {Q : Exit → Act → World → Prop} {α : Type} {R : α → List Value → Prop}
theorem OwnRow.append {w0 W : World} (base : Nat) (hgd : o.guard = none) (s x : Operand) (t e : TypeId) (z : Value) (size bytes : Nat)
  (ho : o.op = .call { callee := .builtin .append, args := #[s, x], argTypes := #[t, t] })
  (ht : P.underlying t = some (.slice e)) (hinfo : (P.info? e).map (fun i => (i.zero, i.size, i.bytes)) = some (some z, size, bytes)) (hz : z.cells.size = size) (hs0 : 0 < size) (hb0 : 0 < bytes)
  (v : Value) (ps : List α) (p : α) (cs : List Value) (hs : a.eval s = v) (hx : a.eval x = .slice (some ⟨W.heap.size, 0, none⟩) 1 1) (hp : R p cs) (hcs : cs.length = size) (h1 : ∀ u ∈ cs, u.oneCell' = true)
  (HO : OwnRow R e size W base v ps) (HB : Below base w0 W) (hbase : base ≤ W.heap.size) (hl : (ps.length + 1) * bytes ≤ 140737488355328)
  (h : ∀ v1 w1, OwnRow R e size w1 base v1 (ps ++ [p]) → Below base w0 w1 → W.grownBy w1 v.ownBlock → (v1.ownBlock = v.ownBlock ∨ ∃ b, v1.ownBlock = some b ∧ W.heap.size ≤ b) → wpList P ops Q rest (a.put o.dst v1) w1) :
  wpList P ops Q (o :: rest) a (W.alloc (.cells cs.toArray e)) := by
 obtain ⟨inner, hown, hr⟩ := HO
 refine print_append_cells base hgd s x t e z size bytes ho ht hinfo hz hs0 hb0 v ps.length inner cs hs hx hcs h1 hown HB hbase hl ?_
 intro v1 w1 hown1 hb1 hg1 hat1
 exact h v1 w1 ⟨inner ++ cs, by rw [List.length_append, List.length_singleton]; exact hown1, hr.snoc hp hcs⟩ hb1 hg1 hat1
end
structure Kd (α : Type) where
 sz : Nat
 E : List Nat
 K : World → α → List Value → Prop
 M : World → Nat → (Nat → Prop) → α → List Value → Prop
 K_len : ∀ {w x cs}, K w x cs → cs.length = sz
 K_one : ∀ {w x cs}, K w x cs → ∀ u ∈ cs, u.oneCell' = true
 K_below : ∀ {w w1 : World} {x cs}, Below w.heap.size w w1 → K w x cs → K w1 x cs
 K_of_M : ∀ {w base ok x cs}, M w base ok x cs → K w x cs
 M_mono : ∀ {w base ok ok' x cs}, (∀ k, ok k → ok' k) → M w base ok x cs → M w base ok' x cs
 M_bound : ∀ {w : World} {base ok x cs}, M w base ok x cs → M w base (fun k => ok k ∧ base ≤ k ∧ k < w.heap.size ∧ ∃ q, q ∈ E ∧ ∃ cells, w.heap[k]? = some (.cells cells q (0, 0))) x cs
 M_move : ∀ {w w1 : World} {base ok x cs}, (∀ k, ok k → w1.heap[k]? = w.heap[k]?) → M w base ok x cs → M w1 base ok x cs
 M_lower : ∀ {w base base' ok x cs}, base' ≤ base → M w base ok x cs → M w base' ok x cs
theorem own_move {w w1 : World} {base : Nat} {e : TypeId} {size n : Nat} {v : Value} {xs : List Value} (h : w.ownsRow base e size v n xs) (hm : ∀ k, v.ownBlock = some k → w1.heap[k]? = w.heap[k]?) : w1.ownsRow base e size v n xs := by
 obtain ⟨h1, h2⟩ := h
 refine ⟨h1, ?_⟩
 rcases h2 with h2 | ⟨g, cap, cur, rfl, hg, hh, r⟩
 ·exact .inl h2
 ·exact .inr ⟨g, cap, cur, rfl, hg, (hm g (by simp [Value.ownBlock])).trans hh, r⟩
theorem own_typed {w : World} {base : Nat} {e : TypeId} {size n : Nat} {v : Value} {xs : List Value} (h : w.ownsRow base e size v n xs) (k : Nat) (hk : v.ownBlock = some k) : ∃ cells, w.heap[k]? = some (.cells cells e (0, 0)) := by
 rcases h.2 with ⟨rfl, _⟩ | ⟨g, cap, cur, rfl, hg, hh, r⟩
 ·simp [Value.ownBlock] at hk
 ·have : g = k := by simpa [Value.ownBlock] using hk
  subst this
  exact ⟨cur, hh⟩
namespace Kd
def C {α : Type} (d : Kd α) (w : World) (A : Option Addr) (n : Nat) (xs : List α) : Prop := ReadsRow (d.K w) d.sz w A n xs
def R {α : Type} (d : Kd α) (e : Nat) (w : World) (base : Nat) (ok : Nat → Prop) (v : Value) (xs : List α) : Prop :=
 (∀ k, v.ownBlock = some k → ok k) ∧ OwnRow (d.M w base (fun k => ok k ∧ some k ≠ v.ownBlock)) e d.sz w base v xs
section
variable {α : Type} {d : Kd α} {e : Nat} {w w1 : World} {base : Nat} {ok ok' : Nat → Prop} {v : Value} {xs : List α}
theorem C_below {A : Option Addr} {n : Nat} (h : d.C w A n xs) (hb : Below w.heap.size w w1) : d.C w1 A n xs := ReadsRow.imp_ h hb (fun _ _ hp => d.K_below hb hp)
theorem R_nil (d : Kd α) (e : Nat) (w : World) (base : Nat) (ok : Nat → Prop) : d.R e w base ok (.slice none 0 0) [] := ⟨fun k hk => by simp [Value.ownBlock] at hk, OwnRow.none_ _ _ _ _ _⟩
theorem R_mono (h : d.R e w base ok v xs) (hok : ∀ k, ok k → ok' k) : d.R e w base ok' v xs := ⟨fun k hk => hok k (h.1 k hk), h.2.imp_ (fun _ _ hp => d.M_mono (fun k hk => ⟨hok k hk.1, hk.2⟩) hp)⟩
theorem R_bound (h : d.R e w base ok v xs) : d.R e w base (fun k => ok k ∧ base ≤ k ∧ k < w.heap.size ∧ ∃ q, q ∈ e :: d.E ∧ ∃ cells, w.heap[k]? = some (.cells cells q (0, 0))) v xs := by
 obtain ⟨h0, inner, ho, hr⟩ := h
 refine ⟨fun k hk => ?_, inner, ho, hr.imp_ (fun _ _ hp => d.M_mono (fun k hk => ?_) (d.M_bound hp))⟩
 ·obtain ⟨cells, hc⟩ := own_typed ho k hk
  exact ⟨h0 k hk, own_base ho k hk, own_lt ho k hk, e, List.mem_cons_self, cells, hc⟩
 ·obtain ⟨⟨h1, h2⟩, h3, h4, q, hq, hc⟩ := hk
  exact ⟨⟨h1, h3, h4, q, List.mem_cons_of_mem _ hq, hc⟩, h2⟩
theorem R_move (h : d.R e w base ok v xs) (hm : ∀ k, ok k → w1.heap[k]? = w.heap[k]?) : d.R e w1 base ok v xs := by
 obtain ⟨h0, inner, ho, hr⟩ := h
 exact ⟨h0, inner, own_move ho (fun k hk => hm k (h0 k hk)), hr.imp_ (fun _ _ hp => d.M_move (fun k hk => hm k hk.1) hp)⟩
theorem R_lower {base' : Nat} (h : d.R e w base ok v xs) (hb : base' ≤ base) : d.R e w base' ok v xs := by
 obtain ⟨h0, inner, ho, hr⟩ := h
 exact ⟨h0, inner, own_weaken ho hb, hr.imp_ (fun _ _ hp => d.M_lower hb hp)⟩
theorem R_step (h : d.R e w base ok v xs) (hm : ∀ k, ok k → k < w.heap.size → w1.heap[k]? = w.heap[k]?) : d.R e w1 base ok v xs :=
 R_mono (R_move (R_bound h) (fun k hk => hm k hk.1 hk.2.2.1)) (fun _ hk => hk.1)
theorem M_step {x : α} {cs : List Value} (h : d.M w base ok x cs) (hm : ∀ k, ok k → k < w.heap.size → w1.heap[k]? = w.heap[k]?) : d.M w1 base ok x cs :=
 d.M_mono (fun _ hk => hk.1) (d.M_move (fun k hk => hm k hk.1 hk.2.2.1) (d.M_bound h))
theorem R_below (h : d.R e w base ok v xs) (hb : Below w.heap.size w w1) : d.R e w1 base ok v xs := R_step h (fun k _ hk => hb.block k hk)
theorem M_below {x : α} {cs : List Value} (h : d.M w base ok x cs) (hb : Below w.heap.size w w1) : d.M w1 base ok x cs := M_step h (fun k _ hk => hb.block k hk)
theorem R_grown (h : d.R e w base ok v xs) {row : Option Nat} (hg : w.grownBy w1 row) (hok : ∀ k, ok k → some k ≠ row) : d.R e w1 base ok v xs := R_step h (fun k ho hk => hg.block k hk (hok k ho))
theorem R_far (h : d.R e w base ok v xs) {p : Addr} (hok : ∀ k, ok k → k ≠ p.block) (u : Value) : d.R e (w.setCell p u) base ok v xs := R_step h (fun k ho _ => Below.heap_setCell w p u k (hok k ho))
theorem R_types (h : d.R e w base ok v xs) {g t : Nat} {cells : Array Value} (hb : w.heap[g]? = some (.cells cells t (0, 0))) (ht : ∀ q, q ∈ e :: d.E → q ≠ t) : d.R e w base (fun k => ok k ∧ k ≠ g) v xs :=
 R_mono (R_bound h) (fun k hk => ⟨hk.1, by
  obtain ⟨_, _, _, q, hq, cells', hc⟩ := hk
  rintro rfl
  rw [hc] at hb
  injection hb with hb
  injection hb with _ hb
  exact ht q hq hb⟩)
theorem R_set (h : d.R e w base ok v xs) {g t : Nat} {cells : Array Value} (hb : w.heap[g]? = some (.cells cells t (0, 0))) (ht : ∀ q, q ∈ e :: d.E → q ≠ t) (j : Nat) (u : Value) : d.R e (w.setCell ⟨g, j, none⟩ u) base ok v xs :=
 R_mono (R_far (p := ⟨g, j, none⟩) (R_types h hb ht) (fun _ hk => hk.2) u) (fun _ hk => hk.1)
theorem R_reads (h : d.R e w base ok v xs) : ∃ A c, v = .slice A xs.length c ∧ xs.length ≤ c ∧ d.C w A xs.length xs := by
 obtain ⟨A, c, he, hl, hr⟩ := OwnRow.reads h.2
 exact ⟨A, c, he, hl, hr.imp_ (Below.refl _ _) (fun _ _ hp => d.K_of_M hp)⟩
theorem R_slice (h : d.R e w base ok v xs) : ∃ A c, v = .slice A xs.length c := by
 obtain ⟨A, c, he, _⟩ := R_reads h
 exact ⟨A, c, he⟩
theorem R_own (h : d.R e w base ok v xs) : ∃ inner, w.ownsRow base e d.sz v xs.length inner := by
 obtain ⟨_, inner, ho, _⟩ := h
 exact ⟨inner, ho⟩
end
def scalar {α : Type} (enc : α → Value) (h1 : ∀ x, (enc x).oneCell' = true) : Kd α where
 sz := 1
 E := []
 K := fun _ x cs => cs = [enc x]
 M := fun _ _ _ x cs => cs = [enc x]
 K_len := fun h => by rw [h]; rfl
 K_one := fun h u hu => by
  rw [h] at hu
  rw [List.mem_singleton.1 hu]
  exact h1 _
 K_below := fun _ h => h
 K_of_M := fun h => h
 M_mono := fun _ h => h
 M_bound := fun h => h
 M_move := fun _ h => h
 M_lower := fun _ h => h
def int (k : IntKind) : Kd Int := scalar (Value.int k) (fun _ => rfl)
def bool : Kd Bool := scalar Value.bool (fun _ => rfl)
def string : Kd ByteArray := scalar Value.string (fun _ => rfl)
def slice {α : Type} (e : Nat) (d : Kd α) : Kd (List α) where
 sz := 1
 E := e :: d.E
 K := fun w xs cs => ∃ A c, cs = [.slice A xs.length c] ∧ xs.length ≤ c ∧ d.C w A xs.length xs
 M := fun w base ok xs cs => ∃ v, cs = [v] ∧ d.R e w base ok v xs
 K_len := by
  rintro w x cs ⟨A, c, rfl, _⟩
  rfl
 K_one := by
  rintro w x cs ⟨A, c, rfl, _⟩ u hu
  rw [List.mem_singleton.1 hu]
  rfl
 K_below := by
  rintro w w1 x cs hb ⟨A, c, rfl, hl, hr⟩
  exact ⟨A, c, rfl, hl, C_below hr hb⟩
 K_of_M := by
  rintro w base ok x cs ⟨v, rfl, h⟩
  obtain ⟨A, c, rfl, hl, hr⟩ := R_reads h
  exact ⟨A, c, rfl, hl, hr⟩
 M_mono := by
  rintro w base ok ok' x cs hok ⟨v, rfl, h⟩
  exact ⟨v, rfl, R_mono h hok⟩
 M_bound := by
  rintro w base ok x cs ⟨v, rfl, h⟩
  exact ⟨v, rfl, R_bound h⟩
 M_move := by
  rintro w w1 base ok x cs hm ⟨v, rfl, h⟩
  exact ⟨v, rfl, R_move h hm⟩
 M_lower := by
  rintro w base base' ok x cs hb ⟨v, rfl, h⟩
  exact ⟨v, rfl, R_lower h hb⟩
def pair {α β : Type} (a : Kd α) (b : Kd β) : Kd (α × β) where
 sz := a.sz + b.sz
 E := a.E ++ b.E
 K := fun w x cs => ∃ c0 c1, cs = c0 ++ c1 ∧ a.K w x.1 c0 ∧ b.K w x.2 c1
 M := fun w base ok x cs => ∃ c0 c1, cs = c0 ++ c1 ∧ a.M w base ok x.1 c0 ∧ b.M w base ok x.2 c1
 K_len := by
  rintro w x cs ⟨c0, c1, rfl, h0, h1⟩
  rw [List.length_append, a.K_len h0, b.K_len h1]
 K_one := by
  rintro w x cs ⟨c0, c1, rfl, h0, h1⟩ u hu
  rcases List.mem_append.1 hu with hu | hu
  ·exact a.K_one h0 u hu
  ·exact b.K_one h1 u hu
 K_below := by
  rintro w w1 x cs hb ⟨c0, c1, rfl, h0, h1⟩
  exact ⟨c0, c1, rfl, a.K_below hb h0, b.K_below hb h1⟩
 K_of_M := by
  rintro w base ok x cs ⟨c0, c1, rfl, h0, h1⟩
  exact ⟨c0, c1, rfl, a.K_of_M h0, b.K_of_M h1⟩
 M_mono := by
  rintro w base ok ok' x cs hok ⟨c0, c1, rfl, h0, h1⟩
  exact ⟨c0, c1, rfl, a.M_mono hok h0, b.M_mono hok h1⟩
 M_bound := by
  rintro w base ok x cs ⟨c0, c1, rfl, h0, h1⟩
  refine ⟨c0, c1, rfl, a.M_mono ?_ (a.M_bound h0), b.M_mono ?_ (b.M_bound h1)⟩
  ·rintro k ⟨h2, h3, h4, q, hq, hc⟩
   exact ⟨h2, h3, h4, q, List.mem_append_left _ hq, hc⟩
  ·rintro k ⟨h2, h3, h4, q, hq, hc⟩
   exact ⟨h2, h3, h4, q, List.mem_append_right _ hq, hc⟩
 M_move := by
  rintro w w1 base ok x cs hm ⟨c0, c1, rfl, h0, h1⟩
  exact ⟨c0, c1, rfl, a.M_move hm h0, b.M_move hm h1⟩
 M_lower := by
  rintro w base base' ok x cs hb ⟨c0, c1, rfl, h0, h1⟩
  exact ⟨c0, c1, rfl, a.M_lower hb h0, b.M_lower hb h1⟩
def iso {α β : Type} (d : Kd α) (f : β → α) : Kd β where
 sz := d.sz
 E := d.E
 K := fun w x cs => d.K w (f x) cs
 M := fun w base ok x cs => d.M w base ok (f x) cs
 K_len := d.K_len
 K_one := d.K_one
 K_below := d.K_below
 K_of_M := d.K_of_M
 M_mono := d.M_mono
 M_bound := d.M_bound
 M_move := d.M_move
 M_lower := d.M_lower
def bot {α : Type} (sz : Nat) (E : List Nat) : Kd α where
 sz := sz
 E := E
 K := fun _ _ _ => False
 M := fun _ _ _ _ _ => False
 K_len := fun h => h.elim
 K_one := fun h => h.elim
 K_below := fun _ h => h
 K_of_M := fun h => h
 M_mono := fun _ h => h
 M_bound := fun h => h
 M_move := fun _ h => h
 M_lower := fun _ h => h
def upto {α : Type} (F : Kd α → Kd α) (sz : Nat) (E : List Nat) : Nat → Kd α
 | 0 => bot sz E
 | n + 1 => F (upto F sz E n)
theorem C_get {α : Type} {d : Kd α} {w : World} {A : Option Addr} {n : Nat} {xs : List α} (h : d.C w A n xs) (z : α) (i : Int) (h0 : 0 ≤ i) (h1 : i < n) :
  ∃ ad c, A = some ad ∧ c.length = d.sz ∧ d.K w (xs.getD i.toNat z) c ∧ ∀ j u, c[j]? = some u → w.cell? (ad.add (i.toNat * d.sz + j)) = some u := ReadsRow.get_ h z i h0 h1
theorem R_appended {α : Type} {d : Kd α} {e base : Nat} {ok okp : Nat → Prop} {W w1 : World} {v v1 : Value} {xs : List α} {p : α} {inner cs : List Value} (h0 : ∀ k, v.ownBlock = some k → ok k) (hr : Reps (d.M W base (fun k => ok k ∧ some k ≠ v.ownBlock)) d.sz xs inner) (hp : d.M W base okp p cs) (hokp : ∀ k, okp k → ok k ∧ some k ≠ v.ownBlock) (hfresh : ∀ k, W.heap.size ≤ k → ok k)
  (hown : w1.ownsRow base e d.sz v1 (xs.length + 1) (inner ++ cs)) (hg : W.grownBy w1 v.ownBlock) (hat : v1.ownBlock = v.ownBlock ∨ ∃ b, v1.ownBlock = some b ∧ W.heap.size ≤ b) : d.R e w1 base ok v1 (xs ++ [p]) := by
 have hne : ∀ k, some k ≠ v.ownBlock → k < W.heap.size → some k ≠ v1.ownBlock := by
  intro k hk hlt
  rcases hat with hat | ⟨b, hb, hle⟩
  ·rw [hat]; exact hk
  ·rw [hb]
   intro he
   injection he with he
   omega
 have step : ∀ {q : α} {c : List Value} {o : Nat → Prop}, d.M W base o q c → (∀ k, o k → ok k ∧ some k ≠ v.ownBlock) → d.M w1 base (fun k => ok k ∧ some k ≠ v1.ownBlock) q c := by
  intro q c o hq ho
  have h1 := d.M_move (w1 := w1) (fun k hk => hg.block k hk.2.2.1 (ho k hk.1).2) (d.M_bound hq)
  exact d.M_mono (fun k hk => ⟨(ho k hk.1).1, hne k (ho k hk.1).2 hk.2.2.1⟩) h1
 refine ⟨fun k hk => ?_, inner ++ cs, by rw [List.length_append, List.length_singleton]; exact hown, ?_⟩
 ·rcases hat with hat | ⟨b, hb, hle⟩
  ·exact h0 k (hat ▸ hk)
  ·rw [hb] at hk
   injection hk with hk
   exact hfresh k (by omega)
 ·exact (hr.imp_ (fun _ _ hq => step hq (fun _ hk => hk))).snoc (step hp hokp) (d.K_len (d.K_of_M hp))
section
variable {P : Program} {ops : Array Oper} {rest : List Oper} {o : Oper} {a : Act} {Q : Exit → Act → World → Prop} {α : Type}
theorem R_append (d : Kd α) {w0 W : World} (base : Nat) (hgd : o.guard = none) (s x : Operand) (t e : TypeId) (z : Value) (bytes : Nat)
  (ho : o.op = .call { callee := .builtin .append, args := #[s, x], argTypes := #[t, t] })
  (ht : P.underlying t = some (.slice e)) (hinfo : (P.info? e).map (fun i => (i.zero, i.size, i.bytes)) = some (some z, d.sz, bytes)) (hz : z.cells.size = d.sz) (hs0 : 0 < d.sz) (hb0 : 0 < bytes)
  (v : Value) (xs : List α) (p : α) (cs : List Value) (ok okp : Nat → Prop) (hs : a.eval s = v) (hx : a.eval x = .slice (some ⟨W.heap.size, 0, none⟩) 1 1) (hp : d.M W base okp p cs) (hokp : ∀ k, okp k → ok k ∧ some k ≠ v.ownBlock) (hfresh : ∀ k, W.heap.size ≤ k → ok k)
  (HO : d.R e W base ok v xs) (HB : Below base w0 W) (hbase : base ≤ W.heap.size) (hl : (xs.length + 1) * bytes ≤ 140737488355328)
  (h : ∀ v1 w1, d.R e w1 base ok v1 (xs ++ [p]) → Below base w0 w1 → W.grownBy w1 v.ownBlock → (v1.ownBlock = v.ownBlock ∨ ∃ b, v1.ownBlock = some b ∧ W.heap.size ≤ b) → wpList P ops Q rest (a.put o.dst v1) w1) :
  wpList P ops Q (o :: rest) a (W.alloc (.cells cs.toArray e)) := by
 obtain ⟨h0, inner, hown, hr⟩ := HO
 refine print_append_cells base hgd s x t e z d.sz bytes ho ht hinfo hz hs0 hb0 v xs.length inner cs hs hx (d.K_len (d.K_of_M hp)) (d.K_one (d.K_of_M hp)) hown HB hbase hl ?_
 intro v1 w1 hown1 hb1 hg1 hat1
 exact h v1 w1 (R_appended h0 hr hp hokp hfresh hown1 hg1 hat1) hb1 hg1 hat1
end
theorem reads_of_C {α : Type} {enc : α → Value} {d : α} {h1 : ∀ x, (enc x).oneCell' = true} {w : World} {A : Option Addr} {n : Nat} {xs : List α} (h : (scalar enc h1).C w A n xs) : ReadsOf enc d w A n xs := by
 refine ⟨h.1, h.2.1, fun hn => ?_⟩
 obtain ⟨ad, e, hc⟩ := h.2.2 hn
 refine ⟨ad, e, fun j hj => ?_⟩
 have hl : j < xs.length := by have := h.1; omega
 obtain ⟨c, _, hK, hcell⟩ := hc j _ (List.getElem?_eq_getElem hl)
 have hK' : c = [enc xs[j]] := hK
 subst hK'
 have := hcell 0 _ rfl
 simpa [scalar, List.getD_eq_getElem?_getD, List.getElem?_eq_getElem hl] using this
end Kd
namespace Kd
structure Mono {α β : Type} (F : Kd α → Kd β) : Prop where
 sz : ∀ d d' : Kd α, d.sz = d'.sz → (F d).sz = (F d').sz
 K : ∀ d d' : Kd α, d.sz = d'.sz → (∀ w x cs, d.K w x cs → d'.K w x cs) → ∀ w x cs, (F d).K w x cs → (F d').K w x cs
 M : ∀ d d' : Kd α, d.sz = d'.sz → (∀ w base ok x cs, d.M w base ok x cs → d'.M w base ok x cs) → ∀ w base ok x cs, (F d).M w base ok x cs → (F d').M w base ok x cs
end Kd
namespace Kd
section
variable {α β : Type} {d : Kd α} {d' : Kd β} {e e' : Nat} {w w1 W : World} {base b b' : Nat} {ok ok' okv oku : Nat → Prop} {v u : Value} {xs : List α} {ys : List β}
theorem R_alloc (h : d.R e w base ok v xs) (o : Obj) : d.R e (w.alloc o) base ok v xs := R_below h (below_alloc (Below.refl _ _) o)
theorem R_drew (h : d.R e w base ok v xs) : d.R e w.drew base ok v xs := R_below h (below_drew (Below.refl _ _))
theorem R_drewN (h : d.R e w base ok v xs) (m : Nat) : d.R e (w.drewN m) base ok v xs := R_below h (pw_below_drewN (Below.refl _ _) m)
theorem C_alloc {A : Option Addr} {n : Nat} (h : d.C w A n xs) (o : Obj) : d.C (w.alloc o) A n xs := C_below h (below_alloc (Below.refl _ _) o)
theorem C_drew {A : Option Addr} {n : Nat} (h : d.C w A n xs) : d.C w.drew A n xs := C_below h (below_drew (Below.refl _ _))
theorem C_drewN {A : Option Addr} {n : Nat} (h : d.C w A n xs) (m : Nat) : d.C (w.drewN m) A n xs := C_below h (pw_below_drewN (Below.refl _ _) m)
theorem C_nil (d : Kd α) (w : World) : d.C w none ([] : List α).length [] := ⟨rfl, by simp, fun h => absurd h (Nat.lt_irrefl 0)⟩
theorem R_reads' {A : Option Addr} {n c : Nat} (h : d.R e w base ok (.slice A n c) xs) : n = xs.length ∧ n ≤ c ∧ d.C w A xs.length xs := by
 obtain ⟨A', c', he, hl, hr⟩ := R_reads h
 injection he with h1 h2 h3
 subst h1
 exact ⟨h2, by omega, hr⟩
theorem R_lt (h : d.R e w base ok v xs) : ∀ k, v.ownBlock = some k → k < w.heap.size := by
 obtain ⟨inner, ho⟩ := R_own h
 exact own_lt ho
theorem R_base (h : d.R e w base ok v xs) : ∀ k, v.ownBlock = some k → base ≤ k := by
 obtain ⟨inner, ho⟩ := R_own h
 exact own_base ho
end
section
variable {w W : World} {A : Option Addr} {n : Nat}
theorem at_bool {xs : List Bool} (h : Kd.bool.C w A n xs) (i : Int) (h0 : 0 ≤ i) (h1 : i < n) : ∃ ad, A = some ad ∧ w.cell? (ad.add i.toNat) = some (.bool (rdOf false xs i)) :=
 ReadsOf.at_ (reads_of_C (enc := Value.bool) (d := false) (h1 := fun _ => rfl) h) i h0 h1
variable {α : Type} {enc : α → Value} {h1 : ∀ x, (enc x).oneCell' = true} {e base g cap : Nat} {ok : Nat → Prop} {xs : List α}
end
section
variable {P : Program} {ops : Array Oper} {rest : List Oper} {o : Oper} {a : Act} {Q : Exit → Act → World → Prop}
theorem event_run {W w1 : World} {v : Value} (hgd : o.guard = none) (hrun : (execOp a.eval o).run P W = .ok (.value v) w1) (h : wpList P ops Q rest (a.put o.dst v) w1) : wpList P ops Q (o :: rest) a W := by
 refine wpList_plain hgd fun K hK => ?_
 unfold Oper.wp
 rw [hrun]
 exact hK _ _ h
variable {α : Type}
theorem R_lit (d : Kd α) {w0 W : World} (base e : Nat) (hgd : o.guard = none) {N : Tmp} (_hd : o.dst = some N) {xs : List α} {inner : List Value} {ok okp : Nat → Prop}
  (hrun : (execOp a.eval o).run P W = .ok (.value (.slice (some ⟨W.heap.size, 0, none⟩) xs.length xs.length)) (W.alloc (.cells inner.toArray e)))
  (hrep : Reps (d.M W base okp) d.sz xs inner) (hok : ∀ k, okp k → ok k) (hfresh : ok W.heap.size) (HB : Below base w0 W) (hbase : base ≤ W.heap.size) (hm : xs.length ≤ 9223372036854775807)
  (h : ∀ v1 w1, d.R e w1 base ok v1 xs → Below base w0 w1 → W.grownBy w1 none → (∃ b, v1.ownBlock = some b ∧ W.heap.size ≤ b) → wpList P ops Q rest (a.put o.dst v1) w1) : wpList P ops Q (o :: rest) a W := by
 refine event_run hgd hrun (h _ _ ⟨fun k hk => ?_, inner, ?_, ?_⟩ (HB.alloc hbase _) (World.grownBy_alloc W _ none) ⟨W.heap.size, by simp [Value.ownBlock], Nat.le_refl _⟩)
 ·have : W.heap.size = k := by simpa [Value.ownBlock] using hk
  subst this
  exact hfresh
 ·have h2 := World.ownsRow_lit (base := base) (e := e) (size := d.sz) W inner.toArray xs.length hbase (by simpa [maxLen] using hm) (by simpa using hrep.1)
  simpa using h2
 ·refine hrep.imp_ (fun p c hp => d.M_mono (fun k hk => ⟨hok k hk.1, fun he => ?_⟩) (M_below (d.M_bound hp) (below_alloc (Below.refl _ _) _)))
  have h3 : k = W.heap.size := by simpa [Value.ownBlock] using he
  have := hk.2.2.1
  omega
end
end Kd
def QRow (w : World) (base : Nat) (e : TypeId) (size : Nat) (v : Value) (n : Nat) (xs : List Value) : Prop :=
  xs.length = n * size ∧
  ((n = 0 ∧ ∃ A, v = .slice A 0 0 ∧ ∀ a, A = some a → base ≤ a.block ∧ ∃ cur, w.heap[a.block]? = some (.cells cur e (0, 0))) ∨
   ∃ g off cap cur, v = .slice (some ⟨g, off * size, none⟩) n cap ∧ base ≤ g ∧ w.heap[g]? = some (.cells cur e (0, 0)) ∧ n ≤ cap ∧ off + cap ≤ maxLen ∧ cur.size = (off + cap) * size ∧ (cur.toList.drop (off * size)).take (n * size) = xs)
section
variable {w w1 : World} {base n size : Nat} {e : TypeId} {v : Value} {xs : List Value}
theorem q_of_own (h : w.ownsRow base e size v n xs) : QRow w base e size v n xs := by
 obtain ⟨h1, h2⟩ := h
 refine ⟨h1, ?_⟩
 rcases h2 with ⟨rfl, h0⟩ | ⟨g, cap, cur, rfl, hb, hh, hnc, hcm, hcs, ht⟩
 ·exact .inl ⟨h0, none, rfl, fun a ha => by cases ha⟩
 ·exact .inr ⟨g, 0, cap, cur, by rw [Nat.zero_mul], hb, hh, hnc, by rw [Nat.zero_add]; exact hcm, by rw [Nat.zero_add]; exact hcs, by rw [Nat.zero_mul, List.drop_zero]; exact ht⟩
end
namespace Kd
def Q {α : Type} (d : Kd α) (e : Nat) (w : World) (base : Nat) (ok : Nat → Prop) (v : Value) (xs : List α) : Prop :=
 (∀ k, v.ownBlock = some k → ok k) ∧ ∃ inner, QRow w base e d.sz v xs.length inner ∧ Reps (d.M w base (fun k => ok k ∧ some k ≠ v.ownBlock)) d.sz xs inner
section
variable {α : Type} {d : Kd α} {e : Nat} {w w1 W : World} {base : Nat} {ok ok' : Nat → Prop} {v : Value} {xs : List α}
theorem Q_of_R (h : d.R e w base ok v xs) : d.Q e w base ok v xs := by
 obtain ⟨h0, inner, ho, hr⟩ := h
 exact ⟨h0, inner, q_of_own ho, hr⟩
theorem Q_nil (d : Kd α) (e : Nat) (w : World) (base : Nat) (ok : Nat → Prop) : d.Q e w base ok (.slice none 0 0) [] := Q_of_R (R_nil d e w base ok)
end
end Kd
namespace Kd
section
variable {α : Type} {d : Kd α} {e e' : Nat} {w w1 W : World} {base : Nat} {ok : Nat → Prop} {u v : Value} {xs : List α}
theorem R_elder' (hu : d.R e W base ok u xs) (hbase : ∀ k, v.ownBlock = some k → W.heap.size ≤ k) (hb : Below W.heap.size W w1) : d.R e w1 base (fun k => ok k ∧ some k ≠ v.ownBlock) u xs :=
 R_mono (R_move (R_bound hu) (fun k hk => hb.block k hk.2.2.1)) (fun k hk => ⟨hk.1, fun he => by have := hbase k he.symm; have := hk.2.2.1; omega⟩)
theorem R_new' (h : d.R e w1 W.heap.size ok v xs) (hlt : ∀ k, u.ownBlock = some k → k < W.heap.size) : d.R e w1 W.heap.size (fun k => ok k ∧ some k ≠ u.ownBlock) v xs :=
 R_mono (R_bound h) (fun k hk => ⟨hk.1, fun he => by have := hlt k he.symm; have := hk.2.1; omega⟩)
end
end Kd
theorem below_size {w W : World} (h : Below w.heap.size w W) : w.heap.size ≤ W.heap.size := h.size
theorem below_step {w W w2 : World} (h : Below w.heap.size w W) (k : Below W.heap.size W w2) : Below w.heap.size w w2 := below_then h h.size k
theorem ReadsInt.nil (W : World) (k : IntKind) : ReadsInt W k none ([] : List Int).length [] := ⟨rfl, by simp, fun h => absurd h (Nat.lt_irrefl 0)⟩
theorem ReadsInt.drewN {W : World} {k : IntKind} {A : Option Addr} {n : Nat} {xs : List Int} (h : ReadsInt W k A n xs) (m : Nat) : ReadsInt (W.drewN m) k A n xs := h
theorem below_set {w W : World} {g j : Nat} {v : Value} (h : Below w.heap.size w W) (hg : w.heap.size ≤ g) : Below w.heap.size w (W.setCell ⟨g, j, none⟩ v) := h.setCell hg _
theorem ReadsOf.nil {α : Type} (enc : α → Value) (d : α) (W : World) : ReadsOf enc d W none ([] : List α).length [] := ⟨rfl, by simp, fun h => absurd h (Nat.lt_irrefl 0)⟩
theorem ReadsOf.drewN {α : Type} {enc : α → Value} {d : α} {W : World} {A : Option Addr} {n : Nat} {xs : List α} (h : ReadsOf enc d W A n xs) (m : Nat) : ReadsOf enc d (W.drewN m) A n xs := h
theorem blk_put {w : World} {g : Nat} {t : TypeId} {cs cs' : Array Value} (h : w.heap[g]? = some (.cells cs t (0, 0))) (i : Nat) (u : Value) (e : cs.setIfInBounds i u = cs') : (w.setCell ⟨g, i, none⟩ u).heap[g]? = some (.cells cs' t (0, 0)) := e ▸ blk_set h i u
theorem below_drew1 {base : Nat} {w W : World} (h : Below base w W) : Below base w W.drew := h.drew
section
variable {P : Program} {ops : Array Oper} {rest : List Oper} {o : Oper} {a : Act} {Q : Exit → Act → World → Prop}
theorem box_event {W : World} (hgd : o.guard = none) {N : Tmp} (_hd : o.dst = some N) {cs : Array Value} {t : TypeId}
  (hrun : (execOp a.eval o).run P W = .ok (.value (.pointer (some ⟨W.heap.size, 0, none⟩))) (W.alloc (.cells cs t (0, 0))))
  (h : ∀ g, g = W.heap.size → ∀ w1, w1.heap[g]? = some (.cells cs t (0, 0)) → Below W.heap.size W w1 → wpList P ops Q rest (a.put o.dst (.pointer (some ⟨g, 0, none⟩))) w1) : wpList P ops Q (o :: rest) a W :=
 Kd.event_run hgd hrun (h _ rfl _ (blk_new W _) (below_alloc (Below.refl _ _) _))
end
section
variable {P : Program} {ops : Array Oper} {rest : List Oper} {o : Oper} {a : Act} {Q : Exit → Act → World → Prop} {W : World}
theorem gate_dst {N : Tmp} (_hN : o.dst = some N) (h : wpList P ops Q (o :: rest) a W) : wpList P ops Q (o :: rest) a W := h
end
inductive Vals (P : Program) (tmps : Array Value) (w : World) : List ResultVar → List Value → Prop where
 | nil : Vals P tmps w [] []
 | tmp {u : Tmp} {rs : List ResultVar} {vs : List Value} (h : Vals P tmps w rs vs) : Vals P tmps w (.tmp u :: rs) (tmps.getD u undef :: vs)
 | cell {p : Tmp} {ty : TypeId} {rs : List ResultVar} {vs : List Value} (g : Nat) (t : TypeId) (cs : Array Value) (fr : Nat × Nat) (d : TypeDesc)
   (hp : tmps.getD p undef = .pointer (some ⟨g, 0, none⟩)) (hg : w.heap[g]? = some (.cells cs t fr))
   (hu : P.underlying ty = some d) (hd : (match d with | .struct _ | .array _ _ => true | _ => false) = true) (hi : (P.info? ty).map (·.size) = some cs.size)
   (h : Vals P tmps w rs vs) : Vals P tmps w (.cell p ty :: rs) (.agg cs :: vs)
end Go.Proofs.YtljkopbalejcgaaDoorW.PrintWords
end
section
namespace Go.Proofs.YtljkopbalejcgaaDoorW.PrintLast
section
variable {P : Program} {ops : Array Oper} {Q : Exit → Act → World → Prop} {md : Region.Mode} {S : World → Prop} {ds : List Nat}
def Region.reachB (md : Region.Mode) (ops : Array Oper) (i : Nat) : Nat → Nat → Bool
 | 0, _ => false
 | fuel + 1, d => match ops[d]? with
  | some o => o.after.any fun e => Region.binds md e && (e.on == i || Region.reachB md ops i fuel e.on)
  | none => false
def Region.lastB (md : Region.Mode) (ops : Array Oper) (listed : Array Bool) (ds : List Nat) (i : Nat) : Bool :=
 ds.all fun d => listed.getD d true || Region.reachB md ops i ops.size d
def ListedClosed (md : Region.Mode) (ops : Array Oper) (listed : Array Bool) : Prop :=
 ∀ j oj, ops[j]? = some oj → listed.getD j false = true → ∀ e ∈ oj.after, Region.binds md e = true → listed.getD e.on false = true
theorem ListedClosed.set {listed : Array Bool} {i : Nat} (h : ListedClosed md ops listed) (hi : i ∈ Region.ready md ops listed) : ListedClosed md ops (listed.setIfInBounds i true) := by
 obtain ⟨_, oi, hoi, hall⟩ := mem_ready.1 hi
 intro j oj hj hl e he hb
 by_cases hij : i = j
 ·subst hij
  have : oj = oi := Option.some.inj (hj.symm.trans hoi)
  subst this
  exact getD_set_true (hall e he hb)
 ·rw [getD_set_ne false hij] at hl
  exact getD_set_true (h j oj hj hl e he hb)
def wpAnyLast (P : Program) (md : Region.Mode) (ops : Array Oper) (Q : Exit → Act → World → Prop) (S : World → Prop) (ds : List Nat) : Nat → Array Bool → Act → World → Prop
 | 0, listed, a, w => Region.ready md ops listed = [] ∧ Q .normal a w
 | fuel + 1, listed, a, w =>
  (Region.ready md ops listed = [] → Q .normal a w) ∧
  ∀ i ∈ Region.ready md ops listed, wpOp P ops Q i (fun a' w' => (i ∉ ds → S w → S w') ∧ wpAnyLast P md ops Q S ds fuel (listed.setIfInBounds i true) a' w') a w
end
section
variable {P : Program} {ops : Array Oper} {Q : Exit → Act → World → Prop} {md : Region.Mode} {S : World → Prop} {ds : List Nat}
def AllReadyL (P : Program) (md : Region.Mode) (ops : Array Oper) (Q : Exit → Act → World → Prop) (S : World → Prop) (ds : List Nat) (fuel : Nat) (listed : Array Bool) (a : Act) (w : World) (rs : List Nat) : Prop :=
 ∀ i ∈ rs, wpOp P ops Q i (fun a' w' => (i ∉ ds → S w → S w') ∧ wpAnyLast P md ops Q S ds fuel (listed.setIfInBounds i true) a' w') a w
theorem AllReadyL.nil {fuel : Nat} {listed : Array Bool} {a : Act} {w : World} : AllReadyL P md ops Q S ds fuel listed a w [] := fun _ h => by cases h
theorem AllReadyL.cons {fuel : Nat} {listed : Array Bool} {a : Act} {w : World} {i : Nat} {o : Oper} {rs : List Nat} (ho : ops[i]? = some o) (hd : i ∉ ds)
  (h : ∀ K' : Act → World → Prop, Shut (∀ a w, S w → (S w → wpAnyLast P md ops Q S ds fuel (listed.setIfInBounds i true) a w) → K' a w) → if Region.wanted o (yielded ops a.tmps) = true then Oper.wp P o a w K' Q else K' (a.put o.dst undef) w)
  (hs : AllReadyL P md ops Q S ds fuel listed a w rs) : AllReadyL P md ops Q S ds fuel listed a w (i :: rs) := fun j hj => by
 rcases List.mem_cons.1 hj with rfl | hj
 ·exact wpOp_step ho (fun K' hK => h K' (fun a w hS hW => hK a w ⟨fun _ _ => hS, hW hS⟩))
 ·exact hs j hj
theorem enters_ {f : FuncId} {fn : Func} (hf : P.funcs[f]? = some fn) (hname : (fn.name == "runtime.NumGoroutine") = false) (hb : fn.body.isSome = true) (args : Array Value) (w : World) : (callFunc f args).run P w = .ok (.enter f args) w := by
 have h1 : fn.name ≠ "runtime.NumGoroutine" := by simpa using hname
 obtain ⟨c, hc⟩ := Option.isSome_iff_exists.1 hb
 simp [callFunc, hf, h1, hc]
theorem goesL_ {rest : List Oper} {oi : Oper} {a : Act} {w : World} (N : Option Tmp) (hd : oi.dst = N) (hg : oi.guard = none) {f : FuncId} {fn : Func} {as_ : Array Operand} {ts : Array TypeId} (hf : P.funcs[f]? = some fn) (hname : (fn.name == "runtime.NumGoroutine") = false) (hb : fn.body.isSome = true) (args : Array Value)
  (hop : oi.op = .call { callee := .value (.func f), args := as_, argTypes := ts }) (hargs : as_.map a.eval = args)
  (h : Calls P f args w fun e w' => ∃ v, e = .returned v ∧ wpList P ops Q rest (a.put N v) w') : wpList P ops Q (oi :: rest) a w := by
 refine wpList_plain hg fun K hK => ?_
 have he := enters_ hf hname hb args w
 have hrun : (execOp a.eval oi).run P w = .ok (.enter f args) w := by
  unfold execOp
  simp [hop, resolve, Deferred.ofValue, invoke, Act.eval, hargs, he]
 unfold Oper.wp
 rw [hrun, Oper.upon_enter]
 refine h.mono fun e w'' hh => ?_
 obtain ⟨v, rfl, hk⟩ := hh
 subst hd
 exact hK _ _ hk
theorem i64_w (n : Int) : IntKind.i64.wrap n = Go.RowKit.wrap64 n := by unfold Go.RowKit.wrap64; exact IntKind.wrap_i64 n
theorem i32_w (n : Int) : IntKind.i32.wrap n = Go.RowKit.wrap32 n := by unfold Go.RowKit.wrap32; exact IntKind.wrap_i32 n
end
end Go.Proofs.YtljkopbalejcgaaDoorW.PrintLast
end
section
namespace Go.Proofs.YtljkopbalejcgaaDoorW.PrintLast
open Go.Proofs.YtljkopbalejcgaaDoorW.PrintWords (Aside0)
def needsOf (md : Region.Mode) (o : Oper) : List Nat := (o.after.toList.filter (fun e => Region.binds md e)).map (fun e => e.on)
def clashOf (md : Region.Mode) (ops : Array Oper) (i : Nat) (oi : Oper) : List Nat := (List.range ops.size).filter fun j => !(j == i) && match ops[j]? with
 | some oj => !(oj.after.any (fun e => Region.binds md e && e.on == i) || oi.apart ops oj)
 | none => false
def rtab (md : Region.Mode) (ops : Array Oper) : Bool × List (List Nat × List Nat) := (Region.noSelect ops, (List.range ops.size).map fun i => match ops[i]? with
 | some o => (needsOf md o, clashOf md ops i o)
 | none => ([], []))
def reachT (T : List (List Nat × List Nat)) (i : Nat) : Nat → Nat → Bool
 | 0, _ => false
 | fuel + 1, d => match T[d]? with
  | some r => r.1.any fun j => j == i || reachT T i fuel j
  | none => false
def lastT (T : List (List Nat × List Nat)) (l : List Bool) (ds : List Nat) (i : Nat) : Bool := ds.all fun d => l.getD d true || reachT T i T.length d
section
variable {md : Region.Mode} {ops : Array Oper} {T : Bool × List (List Nat × List Nat)} {l l' li lj lk : Array Bool} {ds : List Nat} {i j k : Nat}
theorem gd (l : Array Bool) (j : Nat) (b : Bool) : l.getD j b = l.toList.getD j b := by simp [Array.getD_eq_getD_getElem?, List.getD_eq_getElem?_getD]
theorem needs_any (o : Oper) (p : Nat → Bool) : o.after.any (fun e => Region.binds md e && p e.on) = (needsOf md o).any p := by
 unfold needsOf
 rw [← Array.any_toList]
 induction o.after.toList with
 | nil => rfl
 | cons e r ih =>
  rw [List.any_cons, ih, List.filter_cons]
  cases h : Region.binds md e <;> simp
theorem rtab_length : (rtab md ops).2.length = ops.size := by simp [rtab]
theorem rtab_some {o : Oper} (h : ops[i]? = some o) : (rtab md ops).2[i]? = some (needsOf md o, clashOf md ops i o) := by
 have hi := (Array.getElem?_eq_some_iff.1 h).1
 unfold rtab
 rw [List.getElem?_map, List.getElem?_range hi, Option.map_some, h]
theorem rtab_none (h : ops[i]? = none) : (rtab md ops).2[i]? = none := by
 have hi : ops.size ≤ i := Array.getElem?_eq_none_iff.1 h
 exact List.getElem?_eq_none (by rw [rtab_length]; exact hi)
theorem reach_eq : ∀ (fuel d : Nat), Region.reachB md ops i fuel d = reachT (rtab md ops).2 i fuel d
 | 0, _ => rfl
 | fuel + 1, d => by
  unfold Region.reachB reachT
  cases h : ops[d]? with
  | none => rw [rtab_none h]
  | some o =>
   rw [rtab_some h]
   simp only
   rw [← needs_any]
   congr 1
   funext e
   rw [reach_eq fuel]
theorem last_eq : Region.lastB md ops l ds i = lastT (rtab md ops).2 l.toList ds i := by
 unfold Region.lastB lastT
 rw [rtab_length]
 congr 1
 funext d
 rw [gd, reach_eq]
end
end Go.Proofs.YtljkopbalejcgaaDoorW.PrintLast
end
section
namespace Go.Proofs.YtljkopbalejcgaaDoorW.PrintWords
open Go.RowKit
namespace Kd
def tag {α : Type} (f : Nat → Nat) (d : Kd α) : Kd (α × Nat) where
 sz := d.sz
 E := d.E
 K := fun w x cs => d.K w x.1 cs
 M := fun w base ok x cs => d.M w base (fun k => ok k ∧ f k = x.2) x.1 cs
 K_len := fun h => d.K_len h
 K_one := fun h => d.K_one h
 K_below := fun hb h => d.K_below hb h
 K_of_M := fun h => d.K_of_M h
 M_mono := fun hok h => d.M_mono (fun k hk => ⟨hok k hk.1, hk.2⟩) h
 M_bound := fun h => d.M_mono (fun _ hk => ⟨⟨hk.1.1, hk.2⟩, hk.1.2⟩) (d.M_bound h)
 M_move := fun hm h => d.M_move (fun k hk => hm k hk.1) h
 M_lower := fun hb h => d.M_lower hb h
def raw (sz : Nat) : Kd (List Value) where
 sz := sz
 E := []
 K := fun _ x cs => cs = x ∧ cs.length = sz ∧ ∀ u ∈ cs, u.oneCell' = true
 M := fun _ _ _ x cs => cs = x ∧ cs.length = sz ∧ ∀ u ∈ cs, u.oneCell' = true
 K_len := fun h => h.2.1
 K_one := fun h => h.2.2
 K_below := fun _ h => h
 K_of_M := fun h => h
 M_mono := fun _ h => h
 M_bound := fun h => h
 M_move := fun _ h => h
 M_lower := fun _ h => h
def S {α : Type} (d : Kd α) (e : Nat) (w : World) (base : Nat) (ok : Nat → Prop) (v : Value) (xs : List α) : Prop := ∃ f, (tag f d).R e w base ok v xs.zipIdx
section
variable {α β : Type} {d : Kd α} {d' : Kd β} {e e' : Nat} {w w1 W : World} {base b : Nat} {ok ok' okv oku : Nat → Prop} {u v : Value} {xs : List α} {ys : List β}
theorem R_tight (hE : d.E = []) (h : d.R e w base ok v xs) : d.R e w base (fun k => some k = v.ownBlock) v xs := by
 obtain ⟨h0, inner, ho, hr⟩ := h
 refine ⟨fun k hk => hk.symm, inner, ho, hr.imp_ (fun p c hp => d.M_mono (fun k hk => ?_) (d.M_bound hp))⟩
 obtain ⟨_, _, _, q, hq, _⟩ := hk
 rw [hE] at hq
 cases hq
theorem S_nil (d : Kd α) (e : Nat) (w : World) (base : Nat) (ok : Nat → Prop) : S d e w base ok (.slice none 0 0) [] := ⟨fun _ => 0, R_nil _ _ _ _ _⟩
end
def gap {α : Type} (f : Nat → Nat) (d : Kd α) (i : Nat) (c : List Value) : Kd (α × Nat) where
 sz := d.sz
 E := d.E
 K := fun w x cs => (x.2 = i → cs = c ∧ cs.length = d.sz ∧ ∀ u ∈ cs, u.oneCell' = true) ∧ (x.2 ≠ i → d.K w x.1 cs)
 M := fun w base ok x cs => (x.2 = i → cs = c ∧ cs.length = d.sz ∧ ∀ u ∈ cs, u.oneCell' = true) ∧ (x.2 ≠ i → d.M w base (fun k => ok k ∧ f k = x.2) x.1 cs)
 K_len := fun {w x cs} h => by
  by_cases hx : x.2 = i
  ·exact (h.1 hx).2.1
  ·exact d.K_len (h.2 hx)
 K_one := fun {w x cs} h => by
  by_cases hx : x.2 = i
  ·exact (h.1 hx).2.2
  ·exact d.K_one (h.2 hx)
 K_below := fun hb h => ⟨h.1, fun hx => d.K_below hb (h.2 hx)⟩
 K_of_M := fun h => ⟨h.1, fun hx => d.K_of_M (h.2 hx)⟩
 M_mono := fun hok h => ⟨h.1, fun hx => d.M_mono (fun k hk => ⟨hok k hk.1, hk.2⟩) (h.2 hx)⟩
 M_bound := fun h => ⟨h.1, fun hx => d.M_mono (fun _ hk => ⟨⟨hk.1.1, hk.2⟩, hk.1.2⟩) (d.M_bound (h.2 hx))⟩
 M_move := fun hm h => ⟨h.1, fun hx => d.M_move (fun k hk => hm k hk.1) (h.2 hx)⟩
 M_lower := fun hb h => ⟨h.1, fun hx => d.M_lower hb (h.2 hx)⟩
def H {α : Type} (d : Kd α) (e : Nat) (w : World) (base : Nat) (ok : Nat → Prop) (v : Value) (xs : List α) (i : Int) (oki : Nat → Prop) (c : List Value) : Prop :=
 (∀ k, oki k → ok k) ∧ ∃ f, (gap f d i.toNat c).R e w base (fun k => ok k ∧ ¬ oki k) v xs.zipIdx
end Kd
end Go.Proofs.YtljkopbalejcgaaDoorW.PrintWords
end
section
namespace Go.Proofs.YtljkopbalejcgaaDoorW.PrintWords
open Go.RowKit
namespace Kd
structure Heap {α : Type} (d : Kd α) : Prop where
 K : ∀ {w w1 : World} {x : α} {cs : List Value}, (∀ k, k < w.heap.size → w1.heap[k]? = w.heap[k]?) → d.K w x cs → d.K w1 x cs
theorem cell_heap {w w1 : World} (hb : ∀ k, k < w.heap.size → w1.heap[k]? = w.heap[k]?) {a : Addr} {v : Value} (h : w.cell? a = some v) : w1.cell? a = some v := by
 have := hb a.block (World.block_lt_of_cell? w a h)
 simpa [World.cell?, this] using h
theorem Heap.C {α : Type} {d : Kd α} (hd : Heap d) {w w1 : World} {A : Option Addr} {n : Nat} {xs : List α} (hb : ∀ k, k < w.heap.size → w1.heap[k]? = w.heap[k]?) (h : d.C w A n xs) : d.C w1 A n xs :=
 ⟨h.1, h.2.1, fun hn => by
  obtain ⟨ad, e, hc⟩ := h.2.2 hn
  refine ⟨ad, e, fun j p hj => ?_⟩
  obtain ⟨c, hs, hr, hcell⟩ := hc j p hj
  exact ⟨c, hs, hd.K hb hr, fun i u hu => cell_heap hb (hcell i u hu)⟩⟩
end Kd
end Go.Proofs.YtljkopbalejcgaaDoorW.PrintWords
end
section
namespace Go.Proofs.YtljkopbalejcgaaDoorW.PrintWords
open Go.RowKit
def Kept (w W : World) (S : Nat → Prop) : Prop := w.heap.size ≤ W.heap.size ∧ ∀ i, i < w.heap.size → ¬ S i → W.heap[i]? = w.heap[i]?
section
variable {w W W2 : World} {S S2 S' : Nat → Prop}
theorem Kept.refl (w : World) (S : Nat → Prop) : Kept w w S := ⟨Nat.le_refl _, fun _ _ _ => rfl⟩
theorem Kept.of_below (h : Below w.heap.size w W) (S : Nat → Prop) : Kept w W S := ⟨h.size, fun i hi _ => h.block i hi⟩
theorem Kept.mono (h : Kept w W S) (hs : ∀ k, S k → S' k) : Kept w W S' := ⟨h.1, fun i hi hn => h.2 i hi (fun hk => hn (hs i hk))⟩
theorem Kept.then_ (h : Kept w W S) (k : Kept W W2 S2) (hs : ∀ k, S2 k → S k ∨ w.heap.size ≤ k) : Kept w W2 S :=
 ⟨Nat.le_trans h.1 k.1, fun i hi hn => (k.2 i (Nat.lt_of_lt_of_le hi h.1) (fun h2 => (hs i h2).elim hn (fun h3 => by omega))).trans (h.2 i hi hn)⟩
theorem Kept.below (h : Kept w W S) (hb : Below W.heap.size W W2) : Kept w W2 S := h.then_ (Kept.of_below hb (fun _ => False)) (fun _ hk => hk.elim)
theorem Kept.alloc (h : Kept w W S) (o : Obj) : Kept w (W.alloc o) S := h.below (below_alloc (Below.refl _ _) o)
theorem Kept.drew (h : Kept w W S) : Kept w W.drew S := h
theorem Kept.drewN (h : Kept w W S) (m : Nat) : Kept w (W.drewN m) S := h
theorem Kept.setCell (h : Kept w W S) {p : Addr} (hp : S p.block ∨ w.heap.size ≤ p.block) (u : Value) : Kept w (W.setCell p u) S :=
 h.then_ (S2 := fun k => k = p.block) ⟨by simp [World.setCell], fun i _ hn => Below.heap_setCell W p u i hn⟩ (fun k hk => by rw [hk]; exact hp)
theorem cell_kept {a : Addr} {v : Value} (hc : W.cell? a = some v) (hk : Kept W W2 S) (hne : ¬ S a.block) : W2.cell? a = some v := by
 have := hk.2 a.block (World.block_lt_of_cell? W a hc) hne
 simpa [World.cell?, this] using hc
end
end Go.Proofs.YtljkopbalejcgaaDoorW.PrintWords
end
section
namespace Go.Proofs.YtljkopbalejcgaaDoorW.PrintWords
open Go.RowKit
def Foot (P : World → Prop) (W : World) (ok : Nat → Prop) : Prop := ∀ W' : World, (∀ k, ok k → k < W.heap.size → W'.heap[k]? = W.heap[k]?) → P W'
theorem heap_lt {W W1 : World} {k : Nat} (h : W1.heap[k]? = W.heap[k]?) (hlt : k < W.heap.size) : k < W1.heap.size := by
 rw [Array.getElem?_eq_getElem hlt] at h
 exact (Array.getElem?_eq_some_iff.1 h).1
namespace Foot
variable {P Q : World → Prop} {W W1 : World} {ok ok' : Nat → Prop}
theorem mono (h : Foot P W ok) (hok : ∀ k, ok k → ok' k) : Foot P W ok' := fun W' hW => h W' (fun k hk hlt => hW k (hok k hk) hlt)
theorem step (h : Foot P W ok) (hm : ∀ k, ok k → k < W.heap.size → W1.heap[k]? = W.heap[k]?) : Foot P W1 ok := fun W' hW => h W' (fun k hk hlt => (hW k hk (heap_lt (hm k hk hlt) hlt)).trans (hm k hk hlt))
end Foot
namespace Kd
def F {α : Type} (d : Kd α) (W : World) (ok : Nat → Prop) (A : Option Addr) (n : Nat) (xs : List α) : Prop := Foot (fun W => d.C W A n xs) W ok
def FK {α : Type} (d : Kd α) (W : World) (ok : Nat → Prop) (x : α) (c : List Value) : Prop := Foot (fun W => d.K W x c) W ok
section
variable {α β : Type} {d : Kd α} {e base n n' cc g N : Nat} {ok ok' okp S : Nat → Prop} {w w0 w1 W W1 : World} {A A' : Option Addr} {u v v1 : Value} {xs : List α} {xs' : List β} {d' : Kd β} {x : α} {c : List Value}
theorem F_nil (d : Kd α) (W : World) (ok : Nat → Prop) : F d W ok none ([] : List α).length [] := fun W' _ => C_nil d W'
theorem FK_of_M (h : d.M W base ok x c) : FK d W ok x c := fun _ hW => d.K_of_M (M_step h hW)
end
end Kd
end Go.Proofs.YtljkopbalejcgaaDoorW.PrintWords
end
section
namespace Go.Proofs.YtljkopbalejcgaaDoorW.PrintWords
open Go.RowKit
namespace Kd
def chunks (sz : Nat) (n : Nat) (inner : List Value) : List (List Value) := (List.range n).map fun j => (inner.drop (j * sz)).take sz
theorem chunks_length (sz n : Nat) (inner : List Value) : (chunks sz n inner).length = n := by simp [chunks]
theorem chunks_at {sz n : Nat} {inner : List Value} {j : Nat} (hj : j < n) : (chunks sz n inner)[j]? = some ((inner.drop (j * sz)).take sz) := by simp [chunks, hj]
theorem chunks_get {sz n : Nat} {inner : List Value} {j : Nat} {c : List Value} (h : (chunks sz n inner)[j]? = some c) : c = (inner.drop (j * sz)).take sz := by
 have hj : j < n := by have := (List.getElem?_eq_some_iff.1 h).1; rwa [chunks_length] at this
 rw [chunks_at hj] at h
 injection h with h
 exact h.symm
theorem reps_raw {α : Type} {Rr : α → List Value → Prop} {sz : Nat} {xs : List α} {inner : List Value} (h : Reps Rr sz xs inner) (hR : ∀ x c, Rr x c → c.length = sz ∧ ∀ u ∈ c, u.oneCell' = true) : Reps (fun x cs => cs = x ∧ cs.length = sz ∧ ∀ u ∈ cs, u.oneCell' = true) sz (chunks sz xs.length inner) inner := by
 refine ⟨by rw [chunks_length]; exact h.1, fun j p hj => ?_⟩
 have hjl : j < xs.length := by have := (List.getElem?_eq_some_iff.1 hj).1; rwa [chunks_length] at this
 have hp := chunks_get hj
 exact ⟨hp.symm, hR _ _ (h.2 j _ (List.getElem?_eq_getElem hjl))⟩
section
variable {α : Type} {d : Kd α} {e base n cc g : Nat} {ok ok' okp S : Nat → Prop} {w w1 W W1 : World} {A : Option Addr} {u v v1 : Value} {xs : List α} {x : α} {c : List Value}
def N {α : Type} (d : Kd α) (e : Nat) (w : World) (base : Nat) (ok : Nat → Prop) (v : Value) (xs : List α) : Prop :=
 (∀ k, v.ownBlock = some k → ok k) ∧ ∃ rows : List (List Value), rows.length = xs.length ∧ (raw d.sz).R e w base (fun k => some k = v.ownBlock) v rows ∧ ∀ (j : Nat) (x : α) (c : List Value), xs[j]? = some x → rows[j]? = some c → FK d w (fun k => ok k ∧ some k ≠ v.ownBlock) x c
theorem R_N (h : d.R e w base ok v xs) : N d e w base ok v xs := by
 obtain ⟨h0, inner, ho, hr⟩ := h
 refine ⟨h0, chunks d.sz xs.length inner, chunks_length _ _ _, ⟨fun k hk => hk.symm, inner, by rw [chunks_length]; exact ho, reps_raw hr (fun x c hp => ⟨d.K_len (d.K_of_M hp), d.K_one (d.K_of_M hp)⟩)⟩, fun j x c hx hc => ?_⟩
 rw [chunks_get hc]
 exact FK_of_M (hr.2 j x hx)
theorem N_nil (d : Kd α) (e : Nat) (w : World) (base : Nat) (ok : Nat → Prop) : N d e w base ok (.slice none 0 0) [] := R_N (R_nil _ _ _ _ _)
end
end Kd
end Go.Proofs.YtljkopbalejcgaaDoorW.PrintWords
end
section
namespace Go.Proofs.YtljkopbalejcgaaDoorW.PrintWords
theorem Reps.one {α : Type} {R : α → List Value → Prop} {ps : List α} {cs : List Value} {p : α} {v : Value} (hp : R p [v]) (h : Reps R 1 ps cs) : Reps R 1 (p :: ps) (v :: cs) := by
 refine ⟨by simp [h.1], fun j q hq => ?_⟩
 cases j with
 | zero =>
  simp only [List.getElem?_cons_zero, Option.some.injEq] at hq
  subst hq
  simpa using hp
 | succ j =>
  simp only [List.getElem?_cons_succ] at hq
  have h1 := h.2 j q hq
  simpa [Nat.mul_one] using h1
theorem Reps.front {α : Type} {R : α → List Value → Prop} {size : Nat} {ps : List α} {cs c all : List Value} {p : α} (hp : R p c) (hc : c.length = size) (h : Reps R size ps cs) (ha : c ++ cs = all) : Reps R size (p :: ps) all := by
 subst ha
 refine ⟨by rw [List.length_append, hc, h.1, List.length_cons, Nat.succ_mul, Nat.add_comm], fun j q hq => ?_⟩
 cases j with
 | zero =>
  simp only [List.getElem?_cons_zero, Option.some.injEq] at hq
  subst hq
  rw [Nat.zero_mul, List.drop_zero, List.take_append_of_le_length (by omega), List.take_of_length_le (by omega)]
  exact hp
 | succ j =>
  simp only [List.getElem?_cons_succ] at hq
  have h1 := h.2 j q hq
  rw [Nat.succ_mul, List.drop_append, List.drop_of_length_le (by rw [hc]; exact Nat.le_add_left _ _), List.nil_append, hc, Nat.add_sub_cancel]
  exact h1
theorem Reps.c2 {α : Type} {R : α → List Value → Prop} {ps : List α} {cs : List Value} {p : α} {va vb : Value} (hp : R p [va, vb]) (h : Reps R 2 ps cs) : Reps R 2 (p :: ps) (va :: vb :: cs) := Reps.front hp rfl h rfl
theorem Reps.c3 {α : Type} {R : α → List Value → Prop} {ps : List α} {cs : List Value} {p : α} {va vb vc : Value} (hp : R p [va, vb, vc]) (h : Reps R 3 ps cs) : Reps R 3 (p :: ps) (va :: vb :: vc :: cs) := Reps.front hp rfl h rfl
theorem Reps.c4 {α : Type} {R : α → List Value → Prop} {ps : List α} {cs : List Value} {p : α} {va vb vc vd : Value} (hp : R p [va, vb, vc, vd]) (h : Reps R 4 ps cs) : Reps R 4 (p :: ps) (va :: vb :: vc :: vd :: cs) := Reps.front hp rfl h rfl
theorem Reps.c5 {α : Type} {R : α → List Value → Prop} {ps : List α} {cs : List Value} {p : α} {va vb vc vd ve : Value} (hp : R p [va, vb, vc, vd, ve]) (h : Reps R 5 ps cs) : Reps R 5 (p :: ps) (va :: vb :: vc :: vd :: ve :: cs) := Reps.front hp rfl h rfl
theorem Reps.c6 {α : Type} {R : α → List Value → Prop} {ps : List α} {cs : List Value} {p : α} {va vb vc vd ve vf : Value} (hp : R p [va, vb, vc, vd, ve, vf]) (h : Reps R 6 ps cs) : Reps R 6 (p :: ps) (va :: vb :: vc :: vd :: ve :: vf :: cs) := Reps.front hp rfl h rfl
theorem Reps.c7 {α : Type} {R : α → List Value → Prop} {ps : List α} {cs : List Value} {p : α} {va vb vc vd ve vf vg : Value} (hp : R p [va, vb, vc, vd, ve, vf, vg]) (h : Reps R 7 ps cs) : Reps R 7 (p :: ps) (va :: vb :: vc :: vd :: ve :: vf :: vg :: cs) := Reps.front hp rfl h rfl
theorem Reps.c8 {α : Type} {R : α → List Value → Prop} {ps : List α} {cs : List Value} {p : α} {va vb vc vd ve vf vg vh : Value} (hp : R p [va, vb, vc, vd, ve, vf, vg, vh]) (h : Reps R 8 ps cs) : Reps R 8 (p :: ps) (va :: vb :: vc :: vd :: ve :: vf :: vg :: vh :: cs) := Reps.front hp rfl h rfl
theorem Reps.c9 {α : Type} {R : α → List Value → Prop} {ps : List α} {cs : List Value} {p : α} {va vb vc vd ve vf vg vh vi : Value} (hp : R p [va, vb, vc, vd, ve, vf, vg, vh, vi]) (h : Reps R 9 ps cs) : Reps R 9 (p :: ps) (va :: vb :: vc :: vd :: ve :: vf :: vg :: vh :: vi :: cs) := Reps.front hp rfl h rfl
theorem Reps.c10 {α : Type} {R : α → List Value → Prop} {ps : List α} {cs : List Value} {p : α} {va vb vc vd ve vf vg vh vi vj : Value} (hp : R p [va, vb, vc, vd, ve, vf, vg, vh, vi, vj]) (h : Reps R 10 ps cs) : Reps R 10 (p :: ps) (va :: vb :: vc :: vd :: ve :: vf :: vg :: vh :: vi :: vj :: cs) := Reps.front hp rfl h rfl
end Go.Proofs.YtljkopbalejcgaaDoorW.PrintWords
end
section
namespace Go.Proofs.YtljkopbalejcgaaDoorW.PrintWords
open Go.RowKit
section
variable {P : Program} {ops : Array Oper} {rest : List Oper} {o : Oper} {a : Act} {Q : Exit → Act → World → Prop} {W : World}
theorem gate_guard (hw : Region.wanted o (yielded ops a.tmps) = true) (h : wpList P ops Q ({ o with guard := none } :: rest) a W) : wpList P ops Q (o :: rest) a W := by
 have h1 : Region.wanted { o with guard := none } (yielded ops a.tmps) = true := rfl
 unfold wpList at h ⊢
 rw [if_pos h1] at h
 rw [if_pos hw]
 exact h
end
end Go.Proofs.YtljkopbalejcgaaDoorW.PrintWords
end
section
namespace Go.Proofs.YtljkopbalejcgaaDoorW.PrintMore
open Go.RowKit Go.Proofs.YtljkopbalejcgaaDoorW.PrintWords
theorem max2_int (k k' : IntKind) (x y : Int) : Builtin.max2 (.int k x) (.int k' y) = pure (.int k (if x < y then y else x)) := by simp only [Builtin.max2, gt_iff_lt]
theorem min2_int (k k' : IntKind) (x y : Int) : Builtin.min2 (.int k x) (.int k' y) = pure (.int k (if y < x then y else x)) := by simp only [Builtin.min2]
theorem max_two (ats : Array TypeId) (ty : TypeId) (a b : Value) : Builtin.max_ ats ty #[a, b] = (Builtin.max2 a b >>= fun s => pure s) := by simp only [Builtin.max_, List.foldlM_cons, List.foldlM_nil]
theorem min_two (ats : Array TypeId) (ty : TypeId) (a b : Value) : Builtin.min_ ats ty #[a, b] = (Builtin.min2 a b >>= fun s => pure s) := by simp only [Builtin.min_, List.foldlM_cons, List.foldlM_nil]
theorem max_three (ats : Array TypeId) (ty : TypeId) (a b c : Value) : Builtin.max_ ats ty #[a, b, c] = (Builtin.max2 a b >>= fun s => Builtin.max2 s c >>= fun s => pure s) := by simp only [Builtin.max_, List.foldlM_cons, List.foldlM_nil]
theorem min_three (ats : Array TypeId) (ty : TypeId) (a b c : Value) : Builtin.min_ ats ty #[a, b, c] = (Builtin.min2 a b >>= fun s => Builtin.min2 s c >>= fun s => pure s) := by simp only [Builtin.min_, List.foldlM_cons, List.foldlM_nil]
theorem max_four (ats : Array TypeId) (ty : TypeId) (a b c d : Value) : Builtin.max_ ats ty #[a, b, c, d] = (Builtin.max2 a b >>= fun s => Builtin.max2 s c >>= fun s => Builtin.max2 s d >>= fun s => pure s) := by simp only [Builtin.max_, List.foldlM_cons, List.foldlM_nil]
theorem min_four (ats : Array TypeId) (ty : TypeId) (a b c d : Value) : Builtin.min_ ats ty #[a, b, c, d] = (Builtin.min2 a b >>= fun s => Builtin.min2 s c >>= fun s => Builtin.min2 s d >>= fun s => pure s) := by simp only [Builtin.min_, List.foldlM_cons, List.foldlM_nil]
end Go.Proofs.YtljkopbalejcgaaDoorW.PrintMore
namespace Go.Proofs.YtljkopbalejcgaaDoorW.PrintWords
open Go.RowKit
section
variable {P : Program} {ops : Array Oper} {rest : List Oper} {o : Oper} {a : Act} {Q : Exit → Act → World → Prop} {W : World}
theorem gate_callee {f : FuncId} {as_ : Array Operand} {ts : Array TypeId} (_ho : o.op = .call { callee := .value (.func f), args := as_, argTypes := ts }) (h : wpList P ops Q (o :: rest) a W) : wpList P ops Q (o :: rest) a W := h
end
namespace Kd
section
variable {α : Type} {d : Kd α} {e base : Nat} {ok : Nat → Prop} {W w1 : World} {v : Value} {xs : List α}
theorem R_far1 (h : d.R e W base ok v xs) (hE : d.E = []) {g : Nat} (hne : some g ≠ v.ownBlock) : d.R e W base (fun k => ok k ∧ k ≠ g) v xs :=
 R_mono (R_tight hE h) (fun k hk => ⟨h.1 k hk.symm, fun e_ => hne (by rw [← e_]; exact hk)⟩)
end
end Kd
end Go.Proofs.YtljkopbalejcgaaDoorW.PrintWords
namespace Go.Proofs.YtljkopbalejcgaaDoorW.PrintWords
open Go.RowKit
namespace Kd
def V {α : Type} (d : Kd α) (_e : Nat) (W : World) (_base : Nat) (ok : Nat → Prop) (v : Value) (xs : List α) : Prop := ∃ A c, v = .slice A xs.length c ∧ xs.length ≤ c ∧ F d W ok A xs.length xs
section
variable {α β : Type} {d : Kd α} {e base base' n m c g N' lo hi : Nat} {ok ok' S : Nat → Prop} {w W w1 : World} {A : Option Addr} {ad : Addr} {u v v1 : Value} {xs : List α}
theorem V_nil (d : Kd α) (e : Nat) (W : World) (base : Nat) (ok : Nat → Prop) : V d e W base ok (.slice none 0 0) [] := ⟨none, 0, rfl, Nat.le_refl _, F_nil d W ok⟩
end
end Kd
end Go.Proofs.YtljkopbalejcgaaDoorW.PrintWords
end
section
namespace Go.Proofs.YtljkopbalejcgaaDoor.P
open Go.RowKit Go.Proofs.YtljkopbalejcgaaDoorW.PrintWords Go.Proofs.YtljkopbalejcgaaDoorW.PrintLast Go.Proofs.YtljkopbalejcgaaDoorW.PrintMore
attribute [local go_sem] max2_int min2_int max_two min_two max_three min_three max_four min_four
set_option linter.unusedVariables false
set_option linter.unusedSimpArgs false
def errW : Option Int → Value
 | none => .nilIface
 | some c => .iface 0 (.int .i64 c)
theorem errW_none : errW none = .nilIface := rfl
theorem errW_some (c : Int) : errW (some c) = .iface 0 (.int .i64 c) := rfl
theorem info49 : (Tryd.prog.info? 49).map (fun i => (i.zero, i.size, i.bytes)) = some (some (.agg #[(.string ⟨#[]⟩), (.string ⟨#[]⟩)]), 2, 32) := by kernel_rfl
structure S49 where
 f0 : ByteArray
 f1 : ByteArray
def z49 : S49 := ⟨(⟨#[]⟩ : ByteArray), (⟨#[]⟩ : ByteArray)⟩
def k49 : Kd S49 := Kd.iso (Kd.pair Kd.string Kd.string) (fun x : S49 => (x.f0, x.f1))
theorem k49_open {w : World} {x : S49} {cs : List Value} (h : k49.K w x cs) : cs = [.string x.f0, .string x.f1] := by
 obtain ⟨_, _, rfl, rfl, rfl⟩ := h
 exact rfl
theorem k49_mkM (w : World) (base : Nat) (ok : Nat → Prop) (x : S49)  : k49.M w base ok x [.string x.f0, .string x.f1] := ⟨[.string x.f0], [.string x.f1], rfl, rfl, rfl⟩
def rd_T49 (xs : List S49) (i : Int) : S49 := xs.getD i.toNat z49
theorem at_T49 {w : World} {A : Option Addr} {n : Nat} {xs : List S49} (h : Kd.C k49 w A n xs) (i : Int) (h0 : 0 ≤ i) (h1 : i < n) : ∃ ad , A = some ad ∧ w.cell? (ad.add (i.toNat * 2)) = some (.string (rd_T49 xs i).f0) ∧ w.cell? ⟨(ad.add (i.toNat * 2)).block, (ad.add (i.toNat * 2)).off + 1, none⟩ = some (.string (rd_T49 xs i).f1) := by
 obtain ⟨ad, c, e, _, hK, hc0⟩ := Kd.C_get h z49 i h0 h1
 have hc : ∀ j u, c[j]? = some u → w.cell? (ad.add (i.toNat * 2 + j)) = some u := hc0
 obtain rfl := k49_open hK
 exact ⟨ad, e, hc 0 _ rfl, by rw [← add_field _ _ 1 (by omega)]; exact hc 1 _ rfl⟩
structure S23 where
 f0 : Bool
 f1 : Bool
 f2 : Bool
 f3 : Bool
 f4 : Bool
 f5 : Bool
 f6 : Int
structure S27 where
 f0 : Int
 f1 : ByteArray
 f2 : (List S49)
structure S47 where
 f0 : ByteArray
 f1 : Int
 f2 : ByteArray
 f3 : (List S49)
end Go.Proofs.YtljkopbalejcgaaDoor.P
end
section
namespace Go.Proofs
open Go.Shelf
def Tryd.lays137_ren : Go.Shelf.Ren := ⟨fun | 137 => 83 | 217 => 76 | 266 => 91 | n => n, fun | 9 => 9 | 5 => 5 | 3 => 3 | n => n, fun | n => n⟩
theorem Tryd.lays137 : Go.Proofs.Lays.n137 Tryd.prog Tryd.lays137_ren := {
 mixed := by kernel_rfl
 f137 := Tryd.func83.trans (congrArg some (by kernel_rfl))
 f217 := Tryd.func76.trans (congrArg some (by kernel_rfl))
 f266 := Tryd.func91.trans (congrArg some (by kernel_rfl))
 t3 := Tryd.underlying3
 a3 := Tryd.isAgg3
 z3 := Tryd.sizeOf3
 v3 := Tryd.zeroValue3
 t5 := Tryd.underlying5
 a5 := Tryd.isAgg5
 z5 := Tryd.sizeOf5
 v5 := Tryd.zeroValue5
 t9 := Tryd.underlying9
 a9 := Tryd.isAgg9
 z9 := Tryd.sizeOf9
 v9 := Tryd.zeroValue9 }
open Go.RowKit in
theorem Tryd.strings_IndexByte (s : ByteArray) (c : Int) (w : World) :
  Calls Tryd.prog 83 #[.string s, .int .u8 c] w fun e w' => e = .returned (.int .i64 (Lib.indexByte s.data.toList c.toNat.toUInt8)) ∧ w' = w := Any.strings_IndexByte Tryd.lays137 s c w
def Tryd.lays210_ren : Go.Shelf.Ren := ⟨fun | 210 => 54 | 206 => 40 | n => n, fun | 9 => 9 | 4 => 4 | 3 => 3 | n => n, fun | n => n⟩
theorem Tryd.lays210 : Go.Proofs.Lays.n210 Tryd.prog Tryd.lays210_ren := {
 mixed := by kernel_rfl
 f206 := Tryd.func40.trans (congrArg some (by kernel_rfl))
 f210 := Tryd.func54.trans (congrArg some (by kernel_rfl))
 t3 := Tryd.underlying3
 a3 := Tryd.isAgg3
 z3 := Tryd.sizeOf3
 v3 := Tryd.zeroValue3
 t4 := Tryd.underlying4
 a4 := Tryd.isAgg4
 z4 := Tryd.sizeOf4
 v4 := Tryd.zeroValue4
 t9 := Tryd.underlying9
 a9 := Tryd.isAgg9
 z9 := Tryd.sizeOf9
 v9 := Tryd.zeroValue9 }
open Go.RowKit in
theorem Tryd.stringslite_CutPrefix (s p : ByteArray) (w : World) :
  Calls Tryd.prog 54 #[.string s, .string p] w fun e w' => e = .returned (.tuple #[.string ⟨(Lib.trimPrefix s.data.toList p.data.toList).toArray⟩, .bool (Lib.hasPrefix s.data.toList p.data.toList)]) ∧ w' = w := Any.stringslite_CutPrefix Tryd.lays210 s p w
def Tryd.lays103_ren : Go.Shelf.Ren := ⟨fun | 103 => 43 | 210 => 54 | 206 => 40 | n => n, fun | 9 => 9 | 4 => 4 | 24 => 31 | 3 => 3 | n => n, fun | n => n⟩
theorem Tryd.lays103 : Go.Proofs.Lays.n103 Tryd.prog Tryd.lays103_ren := {
 mixed := by kernel_rfl
 f103 := Tryd.func43.trans (congrArg some (by kernel_rfl))
 f206 := Tryd.func40.trans (congrArg some (by kernel_rfl))
 f210 := Tryd.func54.trans (congrArg some (by kernel_rfl))
 t3 := Tryd.underlying3
 a3 := Tryd.isAgg3
 z3 := Tryd.sizeOf3
 v3 := Tryd.zeroValue3
 t4 := Tryd.underlying4
 a4 := Tryd.isAgg4
 z4 := Tryd.sizeOf4
 v4 := Tryd.zeroValue4
 t9 := Tryd.underlying9
 a9 := Tryd.isAgg9
 z9 := Tryd.sizeOf9
 v9 := Tryd.zeroValue9
 t24 := Tryd.underlying31
 a24 := Tryd.isAgg31
 z24 := Tryd.sizeOf31
 v24 := Tryd.zeroValue31 }
open Go.RowKit in
theorem Tryd.strings_CutPrefix (s p : ByteArray) (w : World) :
  Calls Tryd.prog 43 #[.string s, .string p] w fun e w' => e = .returned (.tuple #[.string ⟨(Lib.trimPrefix s.data.toList p.data.toList).toArray⟩, .bool (Lib.hasPrefix s.data.toList p.data.toList)]) ∧ w' = w := Any.strings_CutPrefix Tryd.lays103 s p w
def Tryd.lays211_ren : Go.Shelf.Ren := ⟨fun | 211 => 65 | 207 => 46 | n => n, fun | 9 => 9 | 4 => 4 | 3 => 3 | n => n, fun | n => n⟩
theorem Tryd.lays211 : Go.Proofs.Lays.n211 Tryd.prog Tryd.lays211_ren := {
 mixed := by kernel_rfl
 f207 := Tryd.func46.trans (congrArg some (by kernel_rfl))
 f211 := Tryd.func65.trans (congrArg some (by kernel_rfl))
 t3 := Tryd.underlying3
 a3 := Tryd.isAgg3
 z3 := Tryd.sizeOf3
 v3 := Tryd.zeroValue3
 t4 := Tryd.underlying4
 a4 := Tryd.isAgg4
 z4 := Tryd.sizeOf4
 v4 := Tryd.zeroValue4
 t9 := Tryd.underlying9
 a9 := Tryd.isAgg9
 z9 := Tryd.sizeOf9
 v9 := Tryd.zeroValue9 }
open Go.RowKit in
theorem Tryd.stringslite_CutSuffix (s p : ByteArray) (w : World) (hs : s.size ≤ 9223372036854775807) :
  Calls Tryd.prog 65 #[.string s, .string p] w fun e w' => e = .returned (.tuple #[.string ⟨(Lib.trimSuffix s.data.toList p.data.toList).toArray⟩, .bool (Lib.hasSuffix s.data.toList p.data.toList)]) ∧ w' = w := Any.stringslite_CutSuffix Tryd.lays211 s p w hs
def Tryd.lays104_ren : Go.Shelf.Ren := ⟨fun | 104 => 53 | 211 => 65 | 207 => 46 | n => n, fun | 9 => 9 | 4 => 4 | 24 => 31 | 3 => 3 | n => n, fun | n => n⟩
theorem Tryd.lays104 : Go.Proofs.Lays.n104 Tryd.prog Tryd.lays104_ren := {
 mixed := by kernel_rfl
 f104 := Tryd.func53.trans (congrArg some (by kernel_rfl))
 f207 := Tryd.func46.trans (congrArg some (by kernel_rfl))
 f211 := Tryd.func65.trans (congrArg some (by kernel_rfl))
 t3 := Tryd.underlying3
 a3 := Tryd.isAgg3
 z3 := Tryd.sizeOf3
 v3 := Tryd.zeroValue3
 t4 := Tryd.underlying4
 a4 := Tryd.isAgg4
 z4 := Tryd.sizeOf4
 v4 := Tryd.zeroValue4
 t9 := Tryd.underlying9
 a9 := Tryd.isAgg9
 z9 := Tryd.sizeOf9
 v9 := Tryd.zeroValue9
 t24 := Tryd.underlying31
 a24 := Tryd.isAgg31
 z24 := Tryd.sizeOf31
 v24 := Tryd.zeroValue31 }
open Go.RowKit in
theorem Tryd.strings_CutSuffix (s p : ByteArray) (w : World) (hs : s.size ≤ 9223372036854775807) :
  Calls Tryd.prog 53 #[.string s, .string p] w fun e w' => e = .returned (.tuple #[.string ⟨(Lib.trimSuffix s.data.toList p.data.toList).toArray⟩, .bool (Lib.hasSuffix s.data.toList p.data.toList)]) ∧ w' = w := Any.strings_CutSuffix Tryd.lays104 s p w hs
def Tryd.laysM171_ren : Go.Shelf.Ren := ⟨fun | 171 => 38 | 243 => 52 | 246 => 64 | 283 => 72 | 284 => 73 | 285 => 74 | 286 => 75 | 129 => 87 | 317 => 86 | 318 => 88 | 319 => 89 | 320 => 90 | 337 => 93 | 338 => 94 | n => n, fun | 3 => 3 | 9 => 9 | 2 => 2 | 4 => 4 | 171 => 99 | 0 => 0 | 53 => 37 | 37 => 59 | 5 => 5 | 173 => 102 | 212 => 107 | 51 => 108 | 20 => 20 | 213 => 109 | 46 => 69 | 232 => 115 | 233 => 116 | n => n, fun | 17 => 1 | 18 => 2 | 19 => 3 | n => n⟩
theorem Tryd.laysM171 : Go.Proofs.LaysM.n171 Tryd.prog Tryd.laysM171_ren := {
 mixed := by kernel_rfl
 f129 := Tryd.func87.trans (congrArg some (by kernel_rfl))
 f171 := Tryd.func38.trans (congrArg some (by kernel_rfl))
 f243 := Tryd.func52.trans (congrArg some (by kernel_rfl))
 f246 := Tryd.func64.trans (congrArg some (by kernel_rfl))
 f283 := Tryd.func72.trans (congrArg some (by kernel_rfl))
 f284 := Tryd.func73.trans (congrArg some (by kernel_rfl))
 f285 := Tryd.func74.trans (congrArg some (by kernel_rfl))
 f286 := Tryd.func75.trans (congrArg some (by kernel_rfl))
 f317 := Tryd.func86.trans (congrArg some (by kernel_rfl))
 f318 := Tryd.func88.trans (congrArg some (by kernel_rfl))
 f319 := Tryd.func89.trans (congrArg some (by kernel_rfl))
 f320 := Tryd.func90.trans (congrArg some (by kernel_rfl))
 f337 := Tryd.func93.trans (congrArg some (by kernel_rfl))
 f338 := Tryd.func94.trans (congrArg some (by kernel_rfl))
 t0 := Tryd.underlying0
 a0 := Tryd.isAgg0
 z0 := Tryd.sizeOf0
 v0 := Tryd.zeroValue0
 t2 := Tryd.underlying2
 a2 := Tryd.isAgg2
 z2 := Tryd.sizeOf2
 v2 := Tryd.zeroValue2
 t3 := Tryd.underlying3
 a3 := Tryd.isAgg3
 z3 := Tryd.sizeOf3
 v3 := Tryd.zeroValue3
 t4 := Tryd.underlying4
 a4 := Tryd.isAgg4
 z4 := Tryd.sizeOf4
 v4 := Tryd.zeroValue4
 t5 := Tryd.underlying5
 a5 := Tryd.isAgg5
 z5 := Tryd.sizeOf5
 v5 := Tryd.zeroValue5
 t9 := Tryd.underlying9
 a9 := Tryd.isAgg9
 z9 := Tryd.sizeOf9
 v9 := Tryd.zeroValue9
 t20 := Tryd.underlying20
 a20 := Tryd.isAgg20
 z20 := Tryd.sizeOf20
 v20 := Tryd.zeroValue20
 t37 := Tryd.underlying59
 a37 := Tryd.isAgg59
 z37 := Tryd.sizeOf59
 v37 := Tryd.zeroValue59
 t46 := Tryd.underlying69
 a46 := Tryd.isAgg69
 z46 := Tryd.sizeOf69
 v46 := Tryd.zeroValue69
 t51 := Tryd.underlying108
 a51 := Tryd.isAgg108
 z51 := Tryd.sizeOf108
 v51 := Tryd.zeroValue108
 t53 := Tryd.underlying37
 a53 := Tryd.isAgg37
 z53 := Tryd.sizeOf37
 v53 := Tryd.zeroValue37
 t171 := Tryd.underlying99
 a171 := Tryd.isAgg99
 z171 := Tryd.sizeOf99
 v171 := Tryd.zeroValue99
 t173 := Tryd.underlying102
 a173 := Tryd.isAgg102
 z173 := Tryd.sizeOf102
 v173 := Tryd.zeroValue102
 t212 := Tryd.underlying107
 a212 := Tryd.isAgg107
 z212 := Tryd.sizeOf107
 v212 := Tryd.zeroValue107
 t213 := Tryd.underlying109
 a213 := Tryd.isAgg109
 z213 := Tryd.sizeOf109
 t232 := Tryd.underlying115
 a232 := Tryd.isAgg115
 z232 := Tryd.sizeOf115
 v232 := Tryd.zeroValue115
 t233 := Tryd.underlying116
 a233 := Tryd.isAgg116
 z233 := Tryd.sizeOf116
 v233 := Tryd.zeroValue116
 g17 := by kernel_rfl
 g18 := by kernel_rfl
 g19 := by kernel_rfl
 i0 := by kernel_rfl
 i2 := by kernel_rfl
 i3 := by kernel_rfl
 i4 := by kernel_rfl
 i5 := by kernel_rfl
 i9 := by kernel_rfl
 i20 := by kernel_rfl
 i37 := by kernel_rfl
 i46 := by kernel_rfl
 i51 := by kernel_rfl
 i53 := by kernel_rfl
 i171 := by kernel_rfl
 i173 := by kernel_rfl
 i212 := by kernel_rfl
 i232 := by kernel_rfl
 i233 := by kernel_rfl
 m17 := by kernel_rfl
 m18 := by kernel_rfl
 m19 := by kernel_rfl }
open Go.RowKit Go.Sort Go.Lib in
theorem Tryd.strconv_Itoa (n : Int) (h0 : -9223372036854775808 ≤ n) (h1 : n ≤ 9223372036854775807) (w : World) (htab : Lib.TabIs Tryd.prog w "internal/strconv.uint64pow10" .u64 Lib.pow10Tab) :
  Calls Tryd.prog 38 #[.int .i64 n] w fun e w' => e = .returned (.string ⟨(Lib.itoa n).toArray⟩) ∧ ∃ k os, w' = grow (w.drewN k) os := Any.strconv_Itoa Tryd.laysM171 n h0 h1 w htab
def Tryd.lays219_ren : Go.Shelf.Ren := ⟨fun | 219 => 66 | 217 => 76 | 225 => 77 | 224 => 78 | 267 => 79 | 266 => 91 | 314 => 92 | n => n, fun | 9 => 9 | 3 => 3 | 4 => 4 | 5 => 5 | 46 => 69 | 146 => 112 | 51 => 108 | n => n, fun | 1 => 0 | n => n⟩
theorem Tryd.lays219 : Go.Proofs.Lays.n219 Tryd.prog Tryd.lays219_ren := {
 mixed := by kernel_rfl
 f217 := Tryd.func76.trans (congrArg some (by kernel_rfl))
 f219 := Tryd.func66.trans (congrArg some (by kernel_rfl))
 f224 := Tryd.func78.trans (congrArg some (by kernel_rfl))
 f225 := Tryd.func77.trans (congrArg some (by kernel_rfl))
 f266 := Tryd.func91.trans (congrArg some (by kernel_rfl))
 f267 := Tryd.func79.trans (congrArg some (by kernel_rfl))
 f314 := Tryd.func92.trans (congrArg some (by kernel_rfl))
 t3 := Tryd.underlying3
 a3 := Tryd.isAgg3
 z3 := Tryd.sizeOf3
 v3 := Tryd.zeroValue3
 t4 := Tryd.underlying4
 a4 := Tryd.isAgg4
 z4 := Tryd.sizeOf4
 v4 := Tryd.zeroValue4
 t5 := Tryd.underlying5
 a5 := Tryd.isAgg5
 z5 := Tryd.sizeOf5
 v5 := Tryd.zeroValue5
 t9 := Tryd.underlying9
 a9 := Tryd.isAgg9
 z9 := Tryd.sizeOf9
 v9 := Tryd.zeroValue9
 t46 := Tryd.underlying69
 a46 := Tryd.isAgg69
 z46 := Tryd.sizeOf69
 v46 := Tryd.zeroValue69
 t51 := Tryd.underlying108
 a51 := Tryd.isAgg108
 z51 := Tryd.sizeOf108
 v51 := Tryd.zeroValue108
 t146 := Tryd.underlying112
 a146 := Tryd.isAgg112
 z146 := Tryd.sizeOf112
 v146 := Tryd.zeroValue112
 g1 := by kernel_rfl }
open Go.RowKit Go.Lib in
theorem Tryd.stringslite_Index_one (s : ByteArray) (c : UInt8) (w : World) :
  Calls Tryd.prog 66 #[.string s, .string ⟨#[c]⟩] w fun e w' => e = .returned (.int .i64 (Lib.indexByte s.data.toList c)) ∧ w' = w := Any.stringslite_Index_one Tryd.lays219 s c w
def Tryd.lays149_ren : Go.Shelf.Ren := ⟨fun | 149 => 59 | 222 => 67 | n => n, fun | 9 => 9 | 5 => 5 | 3 => 3 | 4 => 4 | n => n, fun | n => n⟩
theorem Tryd.lays149 : Go.Proofs.Lays.n149 Tryd.prog Tryd.lays149_ren := {
 mixed := by kernel_rfl
 f149 := Tryd.func59.trans (congrArg some (by kernel_rfl))
 f222 := Tryd.func67.trans (congrArg some (by kernel_rfl))
 t3 := Tryd.underlying3
 a3 := Tryd.isAgg3
 z3 := Tryd.sizeOf3
 v3 := Tryd.zeroValue3
 t4 := Tryd.underlying4
 a4 := Tryd.isAgg4
 z4 := Tryd.sizeOf4
 v4 := Tryd.zeroValue4
 t5 := Tryd.underlying5
 a5 := Tryd.isAgg5
 z5 := Tryd.sizeOf5
 v5 := Tryd.zeroValue5
 t9 := Tryd.underlying9
 a9 := Tryd.isAgg9
 z9 := Tryd.sizeOf9
 v9 := Tryd.zeroValue9 }
open Go.RowKit Go.Lib in
theorem Tryd.strings_LastIndexByte (s : ByteArray) (c : Int) (hs : s.size < 4611686018427387904) (w : World) :
  Calls Tryd.prog 59 #[.string s, .int .u8 c] w fun e w' => e = .returned (.int .i64 (Lib.lastIndexByte s c)) ∧ w' = w := Any.strings_LastIndexByte Tryd.lays149 s c hs w
def Tryd.lays206_ren : Go.Shelf.Ren := ⟨fun | 206 => 40 | n => n, fun | 9 => 9 | 4 => 4 | 3 => 3 | n => n, fun | n => n⟩
theorem Tryd.lays206 : Go.Proofs.Lays.n206 Tryd.prog Tryd.lays206_ren := {
 mixed := by kernel_rfl
 f206 := Tryd.func40.trans (congrArg some (by kernel_rfl))
 t3 := Tryd.underlying3
 a3 := Tryd.isAgg3
 z3 := Tryd.sizeOf3
 v3 := Tryd.zeroValue3
 t4 := Tryd.underlying4
 a4 := Tryd.isAgg4
 z4 := Tryd.sizeOf4
 v4 := Tryd.zeroValue4
 t9 := Tryd.underlying9
 a9 := Tryd.isAgg9
 z9 := Tryd.sizeOf9
 v9 := Tryd.zeroValue9 }
open Go.RowKit Go.Lib in
theorem Tryd.stringslite_HasPrefix (s p : ByteArray) (w : World) :
  Calls Tryd.prog 40 #[.string s, .string p] w fun e w' => e = .returned (.bool (Lib.hasPrefix s.data.toList p.data.toList)) ∧ w' = w := Any.stringslite_HasPrefix Tryd.lays206 s p w
def Tryd.lays99_ren : Go.Shelf.Ren := ⟨fun | 99 => 28 | 206 => 40 | n => n, fun | 9 => 9 | 4 => 4 | 3 => 3 | n => n, fun | n => n⟩
theorem Tryd.lays99 : Go.Proofs.Lays.n99 Tryd.prog Tryd.lays99_ren := {
 mixed := by kernel_rfl
 f99 := Tryd.func28.trans (congrArg some (by kernel_rfl))
 f206 := Tryd.func40.trans (congrArg some (by kernel_rfl))
 t3 := Tryd.underlying3
 a3 := Tryd.isAgg3
 z3 := Tryd.sizeOf3
 v3 := Tryd.zeroValue3
 t4 := Tryd.underlying4
 a4 := Tryd.isAgg4
 z4 := Tryd.sizeOf4
 v4 := Tryd.zeroValue4
 t9 := Tryd.underlying9
 a9 := Tryd.isAgg9
 z9 := Tryd.sizeOf9
 v9 := Tryd.zeroValue9 }
open Go.RowKit Go.Lib in
theorem Tryd.strings_HasPrefix (s p : ByteArray) (w : World) :
  Calls Tryd.prog 28 #[.string s, .string p] w fun e w' => e = .returned (.bool (Lib.hasPrefix s.data.toList p.data.toList)) ∧ w' = w := Any.strings_HasPrefix Tryd.lays99 s p w
def Tryd.lays207_ren : Go.Shelf.Ren := ⟨fun | 207 => 46 | n => n, fun | 9 => 9 | 4 => 4 | 3 => 3 | n => n, fun | n => n⟩
theorem Tryd.lays207 : Go.Proofs.Lays.n207 Tryd.prog Tryd.lays207_ren := {
 mixed := by kernel_rfl
 f207 := Tryd.func46.trans (congrArg some (by kernel_rfl))
 t3 := Tryd.underlying3
 a3 := Tryd.isAgg3
 z3 := Tryd.sizeOf3
 v3 := Tryd.zeroValue3
 t4 := Tryd.underlying4
 a4 := Tryd.isAgg4
 z4 := Tryd.sizeOf4
 v4 := Tryd.zeroValue4
 t9 := Tryd.underlying9
 a9 := Tryd.isAgg9
 z9 := Tryd.sizeOf9
 v9 := Tryd.zeroValue9 }
open Go.RowKit Go.Lib in
theorem Tryd.stringslite_HasSuffix (s p : ByteArray) (w : World) (hs : s.size ≤ 9223372036854775807) :
  Calls Tryd.prog 46 #[.string s, .string p] w fun e w' => e = .returned (.bool (Lib.hasSuffix s.data.toList p.data.toList)) ∧ w' = w := Any.stringslite_HasSuffix Tryd.lays207 s p w hs
def Tryd.lays100_ren : Go.Shelf.Ren := ⟨fun | 100 => 32 | 207 => 46 | n => n, fun | 9 => 9 | 4 => 4 | 3 => 3 | n => n, fun | n => n⟩
theorem Tryd.lays100 : Go.Proofs.Lays.n100 Tryd.prog Tryd.lays100_ren := {
 mixed := by kernel_rfl
 f100 := Tryd.func32.trans (congrArg some (by kernel_rfl))
 f207 := Tryd.func46.trans (congrArg some (by kernel_rfl))
 t3 := Tryd.underlying3
 a3 := Tryd.isAgg3
 z3 := Tryd.sizeOf3
 v3 := Tryd.zeroValue3
 t4 := Tryd.underlying4
 a4 := Tryd.isAgg4
 z4 := Tryd.sizeOf4
 v4 := Tryd.zeroValue4
 t9 := Tryd.underlying9
 a9 := Tryd.isAgg9
 z9 := Tryd.sizeOf9
 v9 := Tryd.zeroValue9 }
open Go.RowKit Go.Lib in
theorem Tryd.strings_HasSuffix (s p : ByteArray) (w : World) (hs : s.size ≤ 9223372036854775807) :
  Calls Tryd.prog 32 #[.string s, .string p] w fun e w' => e = .returned (.bool (Lib.hasSuffix s.data.toList p.data.toList)) ∧ w' = w := Any.strings_HasSuffix Tryd.lays100 s p w hs
def Tryd.lays102_ren : Go.Shelf.Ren := ⟨fun | 102 => 71 | 209 => 85 | 207 => 46 | n => n, fun | 9 => 9 | 4 => 4 | 3 => 3 | n => n, fun | n => n⟩
theorem Tryd.lays102 : Go.Proofs.Lays.n102 Tryd.prog Tryd.lays102_ren := {
 mixed := by kernel_rfl
 f102 := Tryd.func71.trans (congrArg some (by kernel_rfl))
 f207 := Tryd.func46.trans (congrArg some (by kernel_rfl))
 f209 := Tryd.func85.trans (congrArg some (by kernel_rfl))
 t3 := Tryd.underlying3
 a3 := Tryd.isAgg3
 z3 := Tryd.sizeOf3
 v3 := Tryd.zeroValue3
 t4 := Tryd.underlying4
 a4 := Tryd.isAgg4
 z4 := Tryd.sizeOf4
 v4 := Tryd.zeroValue4
 t9 := Tryd.underlying9
 a9 := Tryd.isAgg9
 z9 := Tryd.sizeOf9
 v9 := Tryd.zeroValue9 }
open Go.RowKit Go.Lib in
theorem Tryd.strings_TrimSuffix (s p : ByteArray) (w : World) (hs : s.size ≤ 9223372036854775807) :
  Calls Tryd.prog 71 #[.string s, .string p] w fun e w' => e = .returned (.string ⟨(Lib.trimSuffix s.data.toList p.data.toList).toArray⟩) ∧ w' = w := Any.strings_TrimSuffix Tryd.lays102 s p w hs
end Go.Proofs
end
section
set_option linter.unusedVariables false
set_option linter.unusedSimpArgs false
namespace Go.Proofs.YtljkopbalejcgaaDoor.P
open Go Go.RowKit Go.Lib
set_option maxHeartbeats 1000000 in
theorem slCut1 (s : ByteArray) (c : UInt8) (w : World) (hs : s.size ≤ 140737488351232) :
  Calls Tryd.prog 55 #[.string s, .string ⟨#[c]⟩] w fun e w' => e = .returned (.tuple #[.string ⟨(Lib.cut s.data.toList [c]).1.toArray⟩, .string ⟨(Lib.cut s.data.toList [c]).2.1.toArray⟩, .bool (Lib.cut s.data.toList [c]).2.2]) ∧ ∃ n, w' = w.drewN n := by
 have hone := Lib.index_one s.data.toList c
 rcases Lib.indexB_cases s ⟨#[c]⟩ with hix | ⟨i, hix, hroom⟩
 ·obtain ⟨e1, e2, e3⟩ := Lib.cutB_miss s ⟨#[c]⟩ hix
  have hix' : Lib.indexByte s.data.toList c = -1 := hone.symm.trans hix
  rw [show ([c] : List UInt8) = (⟨#[c]⟩ : ByteArray).data.toList from rfl, e1, e2, e3]
  clear e1 e2 e3 hone hix
  go_enter Tryd.func55, Tryd.ntmps55
  go_wp2_with (go_at_call 66; refine (Tryd.stringslite_Index_one s c _).mono ?_; rintro e w' ⟨rfl, rfl⟩; rw [hix'])
  go_ret3
  exact ⟨rfl, 0, rfl⟩
 ·obtain ⟨e1, e2, e3⟩ := Lib.cutB_hit s ⟨#[c]⟩ i hix
  have hix' : Lib.indexByte s.data.toList c = (i : Int) := hone.symm.trans hix
  rw [show ([c] : List UInt8) = (⟨#[c]⟩ : ByteArray).data.toList from rfl, e1, e2, e3]
  have hr : i + 1 ≤ s.size := hroom
  clear e1 e2 e3 hone hix hroom
  have c1 : (0 : Int) ≤ ↑i := by omega
  have c2 : (↑i : Int) ≤ ↑s.size := by omega
  have c3 : (0 : Int) ≤ ↑i + 1 := by omega
  have c4 : (↑i + 1 : Int) ≤ ↑s.size := by omega
  go_enter Tryd.func55, Tryd.ntmps55
  go_wp2_with (go_at_call 66; refine (Tryd.stringslite_Index_one s c _).mono ?_; rintro e w' ⟨rfl, rfl⟩; rw [hix'])
  go_region
  all_goals
   go_wp2
   go_ret3
   exact ⟨rfl, 1, rfl⟩
set_option maxHeartbeats 1000000 in
theorem cut1 (s : ByteArray) (c : UInt8) (w : World) (hs : s.size ≤ 140737488351232) :
  Calls Tryd.prog 44 #[.string s, .string ⟨#[c]⟩] w fun e w' => e = .returned (.tuple #[.string ⟨(Lib.cut s.data.toList [c]).1.toArray⟩, .string ⟨(Lib.cut s.data.toList [c]).2.1.toArray⟩, .bool (Lib.cut s.data.toList [c]).2.2]) ∧ ∃ n, w' = w.drewN n := by
 go_enter Tryd.func44, Tryd.ntmps44
 go_wp2_with (go_at_call 55; refine (slCut1 s c _ hs).mono ?_; rintro e w' ⟨rfl, n, rfl⟩)
 go_ret3
 exact ⟨rfl, n, rfl⟩
end Go.Proofs.YtljkopbalejcgaaDoor.P
end
section
namespace Go.Proofs.YtljkopbalejcgaaDoor.P
open Go.RowKit Go.Proofs.YtljkopbalejcgaaDoorW.PrintWords Go.Proofs.YtljkopbalejcgaaDoorW.PrintLast Go.Proofs.YtljkopbalejcgaaDoorW.PrintMore
attribute [local go_sem] max2_int min2_int max_two min_two max_three min_three max_four min_four
set_option linter.unusedVariables false
set_option linter.unusedSimpArgs false
open Go Go.Lib
structure GL (w : World) : Prop where
 tab : Lib.TabIs Tryd.prog w "internal/strconv.uint64pow10" .u64 Lib.pow10Tab
theorem gl_named : ∃ g, Tryd.prog.globalNamed "internal/strconv.uint64pow10" = some g := by
 have h : (Tryd.prog.globalNamed "internal/strconv.uint64pow10").isSome = true := by kernel_rfl
 exact Option.isSome_iff_exists.1 h
theorem GL.of_below {w w' : World} (h : GL w) (hb : Below w.heap.size w w') : GL w' := by
 obtain ⟨g, hg⟩ := gl_named
 exact ⟨Go.Joins.tab_stays hg h.tab hb (Nat.le_refl _)⟩
def code_Show.f (a0 : Int) : Option ByteArray := if -9223372036854775808 ≤ a0 ∧ a0 ≤ 9223372036854775807 then some ⟨(Lib.itoa a0).toArray⟩ else none
set_option maxHeartbeats 1000000 in
theorem code_Show.calls (a0 : Int) (r : ByteArray) (w : World) (h : code_Show.f a0 = some r) (hG : GL w) :
  Calls Tryd.prog 23 #[.int .i64 a0] w fun e w' => e = .returned (.string r) ∧ Below w.heap.size w w' := by
 unfold code_Show.f at h
 split at h
 ·rename_i hs
  obtain rfl := Option.some.inj h
  clear h
  obtain ⟨h0, h1⟩ := hs
  have hit : Calls Tryd.prog 38 #[.int .i64 a0] w fun e w' => e = .returned (.string ⟨(Lib.itoa a0).toArray⟩) ∧ Below w.heap.size w w' := (Tryd.strconv_Itoa a0 h0 h1 w hG.tab).mono fun e w' ⟨he, k, os, hw⟩ => ⟨he, by rw [hw]; exact Lib.below_grow w.heap.size w (Nat.le_refl _) k os⟩
  generalize (⟨(Lib.itoa a0).toArray⟩ : ByteArray) = rr at hit
  go_enter Tryd.func23, Tryd.ntmps23
  go_wp2_with (go_at_call 38; refine hit.mono ?_; rintro e w' ⟨rfl, hb⟩; have HB := Aside0.mk hb; clear hb)
  go_ret
  exact ⟨rfl, HB.out⟩
 ·simp at h
end Go.Proofs.YtljkopbalejcgaaDoor.P
end
section
set_option linter.unusedVariables false
set_option linter.unusedSimpArgs false
namespace Go.Proofs.YtljkopbalejcgaaDoor.P
open Go Go.ChangeShapes Go.WideShapes Go.ChangeAt Go.RowKit Go.Deep Go.Joins Go.Proofs.YtljkopbalejcgaaDoorW.PrintWords
open Go.ChangeMaps (open_string shut_string)
theorem gTab : Tryd.prog.globalNamed "internal/strconv.uint64pow10" = some 1 := by kernel_rfl
theorem tabHas : ∃ t e, (Tryd.prog.globals[1]?).map (·.type) = some t ∧ Tryd.prog.underlying t = some (.array 20 e) ∧ Tryd.prog.underlying e = some (.int .u64) ∧ Tryd.prog.cellsOf e = 1 ∧ Tryd.prog.cellsOf t = 20 := by
 refine ⟨((Tryd.prog.globals[1]?).map (·.type)).getD 0, (match Tryd.prog.underlying (((Tryd.prog.globals[1]?).map (·.type)).getD 0) with | some (.array _ e) => e | _ => 0), ?_, ?_, ?_, ?_, ?_⟩ <;> kernel_rfl
theorem gl_of {W : World} {laid : List (String × DataW Unit)} (h : laidMetH Tryd.prog laid W) (e1 : (laid.filter fun x => x.1 == "internal/strconv.uint64pow10") = [("internal/strconv.uint64pow10", Lib.tabData .u64 Lib.pow10Tab)]) : GL W := by
 obtain ⟨t, e, h1, h2, h3, h4, h5⟩ := tabHas
 have hf := Go.laidMetH.filter (fun x => x.1 == "internal/strconv.uint64pow10") h
 rw [e1] at hf
 exact ⟨Lib.tabIs_of_head (rest := []) gTab h1 h2 h3 h4 h5 hf⟩
theorem array7 {α : Type} {cs : Array α} (h : cs.size = 7) : ∃ c0 c1 c2 c3 c4 c5 c6, cs = #[c0, c1, c2, c3, c4, c5, c6] := by
 obtain ⟨l⟩ := cs
 match l, h with
 | [c0, c1, c2, c3, c4, c5, c6], _ => exact ⟨c0, c1, c2, c3, c4, c5, c6, rfl⟩
theorem cellsBool : Tryd.prog.cellsOf 4 = 1 := by kernel_rfl
theorem cellsInt : Tryd.prog.cellsOf 3 = 1 := by kernel_rfl
theorem cellsCaps : Tryd.prog.cellsOf 23 = 7 := by kernel_rfl
set_option maxRecDepth 100000 in
theorem open_caps {H : Type} {enc : TypeId × Value → H} {w : World} {base : Nat} {spare : Nat → Bool} {held : Bool} {r : Reach} {b0 : Nat} {v : Value} {d : DataW H} {p : List MemPlace}
  (hv : Value.okWide Tryd.prog w r b0 23 v) (h : DataW.Trod enc Tryd.prog w base spare held 23 v d p) :
  ∃ (b0 b1 b2 b3 b4 b5 : Bool) (n : Int), v = .agg #[.bool b0, .bool b1, .bool b2, .bool b3, .bool b4, .bool b5, .int .i64 n] := by
 obtain ⟨cs, rfl, hsz⟩ := okWide_struct Tryd.underlying23 hv
 obtain ⟨c0, c1, c2, c3, c4, c5, c6, rfl⟩ := array7 (show cs.size = 7 by rw [hsz, cellsCaps])
 obtain ⟨fuel, hf⟩ := h
 obtain ⟨xs, n, _, _, _, hlen, hx⟩ := DataW.trod_struct Tryd.underlying23 hf
 match xs, hlen with
 | [y0, y1, y2, y3, y4, y5, y6], _ =>
  have h0 := hx 0 _ rfl
  have h1 := hx 1 _ rfl
  have h2 := hx 2 _ rfl
  have h3 := hx 3 _ rfl
  have h4 := hx 4 _ rfl
  have h5 := hx 5 _ rfl
  have h6 := hx 6 _ rfl
  simp [Value.cells, cellsBool, cellsInt] at h0 h1 h2 h3 h4 h5 h6
  obtain ⟨x0, e0, _⟩ := DataW.trod_bool Tryd.underlying4 h0
  obtain ⟨x1, e1, _⟩ := DataW.trod_bool Tryd.underlying4 h1
  obtain ⟨x2, e2, _⟩ := DataW.trod_bool Tryd.underlying4 h2
  obtain ⟨x3, e3, _⟩ := DataW.trod_bool Tryd.underlying4 h3
  obtain ⟨x4, e4, _⟩ := DataW.trod_bool Tryd.underlying4 h4
  obtain ⟨x5, e5, _⟩ := DataW.trod_bool Tryd.underlying4 h5
  obtain ⟨x6, e6, _⟩ := DataW.trod_int Tryd.underlying3 h6
  simp only [List.cons.injEq, and_true] at e0 e1 e2 e3 e4 e5 e6
  subst e0 e1 e2 e3 e4 e5 e6
  exact ⟨x0, x1, x2, x3, x4, x5, x6, rfl⟩
end Go.Proofs.YtljkopbalejcgaaDoor.P
end
section
set_option linter.unusedVariables false
set_option linter.unusedSimpArgs false
namespace Go.Proofs.YtljkopbalejcgaaDoor.P
def isDigit (c : UInt8) : Bool := 48 ≤ c && c ≤ 57
def isLower (c : UInt8) : Bool := 97 ≤ c && c ≤ 122
def isUpper (c : UInt8) : Bool := 65 ≤ c && c ≤ 90
def lower (c : UInt8) : UInt8 := if isUpper c then c + 32 else c
def upper (c : UInt8) : UInt8 := if isLower c then c - 32 else c
def splitOn (c : UInt8) : List UInt8 → List (List UInt8)
 | [] => [[]]
 | b :: l => if b == c then [] :: splitOn c l else match splitOn c l with
  | [] => [[b]]
  | x :: r => (b :: x) :: r
def labelByte (c : UInt8) : Bool := isDigit c || isLower c || c == 45
def labelOk (l : List UInt8) : Bool := decide (1 ≤ l.length) && decide (l.length ≤ 63) && !(l.head? == some 45) && !(l.getLast? == some 45) && l.all labelByte
def nameMay (l : List UInt8) : Bool := decide (l.length ≤ 253) && (splitOn 46 l).all labelOk && !((splitOn 46 l).getLast?.getD []).all isDigit
def foldT (l : List UInt8) : List UInt8 := (Lib.trimSuffix l [46]).map lower
def foldName (l : List UInt8) : Option (List UInt8) := if nameMay (foldT l) then some (foldT l) else none
def isAlnum (c : UInt8) : Bool := isLower c || isUpper c || isDigit c
def signs : List UInt8 := [33, 35, 36, 37, 38, 39, 42, 43, 45, 47, 61, 63, 94, 95, 123, 124, 125, 126, 96]
def atomByte (c : UInt8) : Bool := isAlnum c || decide (0 ≤ Lib.indexByte signs c)
def runS {σ : Type} (step : σ → UInt8 → σ) (ok : σ → UInt8 → Bool) : σ → List UInt8 → Bool × σ
 | m, [] => (true, m)
 | m, c :: r => if ok m c then runS step ok (step m c) r else (false, step m c)
def atomStep (_ : Bool) (c : UInt8) : Bool := c == 46
def atomOk (m : Bool) (c : UInt8) : Bool := (c == 46 && !m) || (!(c == 46) && atomByte c)
def atomsOk (l : List UInt8) : Bool := (runS atomStep atomOk true l).1 && !(runS atomStep atomOk true l).2
def markStep (m : Bool) (c : UInt8) : Bool := c == 92 && !m
def markOk (m : Bool) (c : UInt8) : Bool := decide (32 ≤ (c.toNat : Int)) && decide ((c.toNat : Int) ≤ 126) && (m || !(c == 34))
def quotedIn (l : List UInt8) : List UInt8 := Lib.trimSuffix (Lib.trimPrefix l [34]) [34]
def quotedOk (l : List UInt8) : Bool := Lib.hasPrefix l [34] && Lib.hasSuffix (Lib.trimPrefix l [34]) [34] && (runS markStep markOk false (quotedIn l)).1 && !(runS markStep markOk false (quotedIn l)).2
def lastAt (l : List UInt8) : Int := Lib.lastIndexByte ⟨l.toArray⟩ 64
def localOk (l : List UInt8) : Bool := atomsOk l || quotedOk l
def addrParse (l : List UInt8) : Option (List UInt8 × List UInt8) :=
 if lastAt l < 1 ∨ 64 < lastAt l ∨ Lib.hasSuffix l [46] = true then none
 else if localOk (l.take (lastAt l).toNat) = false then none
 else match foldName (l.drop ((lastAt l).toNat + 1)) with
  | none => none
  | some d => some (l.take (lastAt l).toNat, d)
def nameByte (c : UInt8) : Bool := isUpper c || isDigit c
def valByte (c : UInt8) : Bool := !(decide ((c.toNat : Int) < 33) || decide (126 < (c.toNat : Int)) || c == 61)
def pnameOk (l : List UInt8) : Bool := decide (1 ≤ l.length) && decide (l.length ≤ 32) && isUpper (l.head?.getD 0) && l.all nameByte
def paramOk (n v : List UInt8) : Bool := pnameOk n && v.all valByte
abbrev PL := List (List UInt8 × List UInt8)
def parAt (l : PL) (i : Nat) : Bool := paramOk (l.getD i ([], [])).1 (l.getD i ([], [])).2 && !(List.range i).any fun j => (l.getD j ([], [])).1 == (l.getD i ([], [])).1
def paramsOk (l : PL) : Bool := (List.range l.length).all (parAt l) && decide (l.length ≤ 8)
theorem splitOn_ne (c : UInt8) (l : List UInt8) : splitOn c l ≠ [] := by
 cases l with
 | nil => simp [splitOn]
 | cons b l =>
  simp only [splitOn]
  split
  ·simp
  ·split <;> simp
theorem splitOn_cut (c : UInt8) : ∀ l : List UInt8, splitOn c l = if (Lib.cut l [c]).2.2 then (Lib.cut l [c]).1 :: splitOn c (Lib.cut l [c]).2.1 else [(Lib.cut l [c]).1] := by
 intro l
 induction l with
 | nil => simp [splitOn, Lib.cut, Lib.index]
 | cons b l ih =>
  by_cases hb : b = c
  ·subst hb
   simp [splitOn, Lib.cut, Lib.index]
  ·have hbb : (b == c) = false := by simpa using hb
   have hcb : (c == b) = false := by simpa using fun e : c = b => hb e.symm
   have hg := Lib.index_ge l [c]
   have e : Lib.index (b :: l) [c] = if Lib.index l [c] == -1 then -1 else Lib.index l [c] + 1 := by
    simp [Lib.index, List.isPrefixOf, hcb]
   by_cases h1 : Lib.index l [c] = -1
   ·have e' : Lib.index (b :: l) [c] = -1 := by rw [e, h1]; rfl
    simp only [Lib.cut, h1, e'] at ih ⊢
    simp only [splitOn, hbb]
    simp at ih ⊢
    rw [ih]
   ·have e' : Lib.index (b :: l) [c] = Lib.index l [c] + 1 := by rw [e]; simp [h1]
    obtain ⟨n, hn⟩ : ∃ n : Nat, Lib.index l [c] = n := ⟨(Lib.index l [c]).toNat, by omega⟩
    have en : ((n : Int) + 1).toNat = n + 1 := by omega
    have h0 : (0 : Int) ≤ (n : Int) + 1 := by omega
    simp only [Lib.cut, e', hn, en, h0, if_true] at ih ⊢
    simp only [splitOn, hbb]
    simp at ih ⊢
    rw [ih]
theorem isDigit_eq (c : UInt8) : isDigit c = (decide (48 ≤ (c.toNat : Int)) && decide ((c.toNat : Int) ≤ 57)) := by
 unfold isDigit; rw [Bool.eq_iff_iff]; simp [UInt8.le_iff_toNat_le]; omega
theorem isLower_eq (c : UInt8) : isLower c = (decide (97 ≤ (c.toNat : Int)) && decide ((c.toNat : Int) ≤ 122)) := by
 unfold isLower; rw [Bool.eq_iff_iff]; simp [UInt8.le_iff_toNat_le]; omega
theorem isUpper_eq (c : UInt8) : isUpper c = (decide (65 ≤ (c.toNat : Int)) && decide ((c.toNat : Int) ≤ 90)) := by
 unfold isUpper; rw [Bool.eq_iff_iff]; simp [UInt8.le_iff_toNat_le]; omega
theorem u8_beq (c d : UInt8) : (c == d) = ((c.toNat : Int) == (d.toNat : Int)) := by
 rw [Bool.eq_iff_iff]; simp only [beq_iff_eq]
 exact ⟨fun e => by rw [e], fun e => UInt8.toNat_inj.mp (by omega)⟩
theorem labelByte_eq (c : UInt8) : labelByte c = (isDigit c || isLower c || ((c.toNat : Int) == 45)) := by
 unfold labelByte; rw [u8_beq c 45]; rfl
theorem isDigit_t {c : UInt8} (h : 48 ≤ (c.toNat : Int) ∧ (c.toNat : Int) ≤ 57) : isDigit c = true := by rw [isDigit_eq]; simp; omega
theorem isDigit_f {c : UInt8} (h : ¬ (48 ≤ (c.toNat : Int) ∧ (c.toNat : Int) ≤ 57)) : isDigit c = false := by rw [isDigit_eq]; simp; omega
theorem isLower_t {c : UInt8} (h : 97 ≤ (c.toNat : Int) ∧ (c.toNat : Int) ≤ 122) : isLower c = true := by rw [isLower_eq]; simp; omega
theorem isLower_f {c : UInt8} (h : ¬ (97 ≤ (c.toNat : Int) ∧ (c.toNat : Int) ≤ 122)) : isLower c = false := by rw [isLower_eq]; simp; omega
theorem isUpper_t {c : UInt8} (h : 65 ≤ (c.toNat : Int) ∧ (c.toNat : Int) ≤ 90) : isUpper c = true := by rw [isUpper_eq]; simp; omega
theorem isUpper_f {c : UInt8} (h : ¬ (65 ≤ (c.toNat : Int) ∧ (c.toNat : Int) ≤ 90)) : isUpper c = false := by rw [isUpper_eq]; simp; omega
theorem labelByte_t {c : UInt8} (h : (48 ≤ (c.toNat : Int) ∧ (c.toNat : Int) ≤ 57) ∨ (97 ≤ (c.toNat : Int) ∧ (c.toNat : Int) ≤ 122) ∨ ((c.toNat : Int) == 45) = true) : labelByte c = true := by
 rw [labelByte_eq]
 rcases h with h | h | h
 ·rw [isDigit_t h]; rfl
 ·rw [isLower_t h]; simp
 ·rw [h]; simp
theorem labelByte_f {c : UInt8} (h1 : ¬ (48 ≤ (c.toNat : Int) ∧ (c.toNat : Int) ≤ 57)) (h2 : ¬ (97 ≤ (c.toNat : Int) ∧ (c.toNat : Int) ≤ 122)) (h3 : ((c.toNat : Int) == 45) = false) : labelByte c = false := by
 rw [labelByte_eq, isDigit_f h1, isLower_f h2, h3]; rfl
theorem nameByte_t {c : UInt8} (h : (65 ≤ (c.toNat : Int) ∧ (c.toNat : Int) ≤ 90) ∨ (48 ≤ (c.toNat : Int) ∧ (c.toNat : Int) ≤ 57)) : nameByte c = true := by
 unfold nameByte
 rcases h with h | h
 ·rw [isUpper_t h]; rfl
 ·rw [isDigit_t h]; simp
theorem nameByte_f {c : UInt8} (h1 : ¬ (65 ≤ (c.toNat : Int) ∧ (c.toNat : Int) ≤ 90)) (h2 : ¬ (48 ≤ (c.toNat : Int) ∧ (c.toNat : Int) ≤ 57)) : nameByte c = false := by
 unfold nameByte; rw [isUpper_f h1, isDigit_f h2]; rfl
theorem take_all_succ (l : List UInt8) (p : UInt8 → Bool) (k : Nat) (h : k < l.length) : (l.take (k + 1)).all p = ((l.take k).all p && p l[k]) := by
 rw [List.take_succ_eq_append_getElem h, List.all_append]
 simp only [List.all_cons, List.all_nil, Bool.and_true]
theorem all_false_of (l : List UInt8) (p : UInt8 → Bool) (k : Nat) (h : k < l.length) (hp : p l[k] = false) : l.all p = false := by
 rw [List.all_eq_false]; exact ⟨l[k], List.getElem_mem h, by simp [hp]⟩
theorem len_eq (s : ByteArray) : s.data.toList.length = s.size := (Lib.size_eq s).symm
theorem at_eq (s : ByteArray) (k : Nat) (h : k < s.size) : s.data.toList[k]'(by rw [len_eq]; exact h) = s[k] := rfl
end Go.Proofs.YtljkopbalejcgaaDoor.P
end
section
set_option linter.unusedVariables false
set_option linter.unusedSimpArgs false
namespace Go.Proofs.YtljkopbalejcgaaDoor.P
open Go Go.RowKit Go.Lib Go.Proofs.YtljkopbalejcgaaDoorW.PrintWords
def EvF {α : Type} (f : Nat → Option α) (v : α) : Prop := ∃ k0, ∀ k, k0 ≤ k → f k = some v
theorem EvF.of {α : Type} {f : Nat → Option α} {v : α} (h : ∀ k, f k = some v) : EvF f v := ⟨0, fun k _ => h k⟩
theorem EvF.succ {α : Type} {f g : Nat → Option α} {v : α} (h : EvF g v) (hf : ∀ k, f (k + 1) = g k) : EvF f v := by
 obtain ⟨k0, h⟩ := h
 refine ⟨k0 + 1, fun k hk => ?_⟩
 obtain ⟨k', rfl⟩ : ∃ k', k = k' + 1 := ⟨k - 1, by omega⟩
 rw [hf]; exact h k' (by omega)
theorem EvF.succ_some {α : Type} {f : Nat → Option α} {v : α} (hf : ∀ k, f (k + 1) = some v) : EvF f v := EvF.succ (g := fun _ => some v) (EvF.of fun _ => rfl) hf
theorem EvF.bind {α β : Type} {f : Nat → Option α} {g : Nat → α → Option β} {a : α} {b : β} (h : EvF f a) (h' : EvF (fun k => g k a) b) : EvF (fun k => (f k).bind (g k)) b := by
 obtain ⟨k0, h⟩ := h
 obtain ⟨k1, h'⟩ := h'
 exact ⟨max k0 k1, fun k hk => by show (f k).bind (g k) = some b; rw [h k (by omega)]; exact h' k (by omega)⟩
theorem EvF.congr {α : Type} {f g : Nat → Option α} {v : α} (h : EvF g v) (hf : ∀ k, f k = g k) : EvF f v := by
 obtain ⟨k0, h⟩ := h; exact ⟨k0, fun k hk => by rw [hf]; exact h k hk⟩
theorem wrap64_small (x : Int) (h0 : 0 ≤ x) (h1 : x ≤ 9223372036854775807) : wrap64 x = x := by unfold wrap64; omega
theorem EvF.down {α : Type} {L : Nat → Nat → Option α} {V : Nat → α} (n : Nat) (h : ∀ i, i ≤ n → (i < n → EvF (fun k => L k (i + 1)) (V (i + 1))) → EvF (fun k => L k i) (V i)) : ∀ i, i ≤ n → EvF (fun k => L k i) (V i) := by
 have key : ∀ m i, n - i ≤ m → i ≤ n → EvF (fun k => L k i) (V i) := by
  intro m
  induction m with
  | zero => intro i hm hi; exact h i hi (fun hlt => by omega)
  | succ m ih => intro i hm hi; exact h i hi (fun hlt => ih (i + 1) (by omega) (by omega))
 exact fun i hi => key n i (by omega) hi
theorem EvF.ite {α : Type} {f g : Nat → Option α} {v u : α} {b : Bool} (h : b = true → EvF f v) (h' : b = false → EvF g u) : EvF (fun k => if b = true then f k else g k) (if b = true then v else u) := by
 cases b with
 | true => exact (h rfl).congr fun k => rfl
 | false => exact (h' rfl).congr fun k => rfl
theorem EvF.at {α : Type} {f : Nat → Option α} {v : α} (n : Nat) (h : f n = some v) (hm : ∀ k, LeO (f k) (f (k + 1))) : EvF f v := by
 have key : ∀ j, f (n + j) = some v := by
  intro j
  induction j with
  | zero => exact h
  | succ j ih => exact hm _ _ ih
 exact ⟨n, fun k hk => by obtain ⟨j, rfl⟩ : ∃ j, k = n + j := ⟨k - n, by omega⟩; exact key j⟩
theorem bytes_all (p : UInt8 → Bool) (h : (List.range 256).all (fun n => p (UInt8.ofNat n)) = true) (c : UInt8) : p c = true := by
 have := List.all_eq_true.1 h c.toNat (List.mem_range.2 c.toNat_lt)
 rwa [UInt8.ofNat_toNat] at this
end Go.Proofs.YtljkopbalejcgaaDoor.P
end
section
set_option linter.unusedVariables false
set_option linter.unusedSimpArgs false
namespace Go.Proofs.YtljkopbalejcgaaDoor.P
open Go Go.RowKit
theorem wide_fn (f : FuncId) : Fence.wide.fn f = True := rfl
theorem wide_depth : Fence.wide.depth = none := rfl
def IterB {α : Type} (P : Program) (g : Nat) (lb : Array Value) (encs : α → Array Value) (xs : List α) (B : Nat) (Pre : World → Prop) : Prop :=
 ∀ (l : Nat) (J Jx : Nat → World → Prop) (W : World), Pre W →
  (∀ i A A', J i A → A.grownBy A' (some B) → J i A') → (∀ i A A', Jx i A → A.grownBy A' (some B) → Jx i A') →
  (∀ i (hi : i < xs.length) W1, J i W1 → YieldAt Fence.wide 0 P l (encs xs[i]) W1 fun e W' =>
   (e = .returned (.bool true) ∧ J (i + 1) W' ∧ W1.heap.size ≤ W'.heap.size ∧ W'.heap[B]? = W1.heap[B]?) ∨ (e = .returned (.bool false) ∧ Jx (i + 1) W')) →
  J 0 W →
  CallsIn Fence.wide 0 P g (#[.func (.yield l) #[] #[]] ++ lb) W fun e W' => (∃ v, e = .returned v) ∧ (J xs.length W' ∨ ∃ i, i ≤ xs.length ∧ Jx i W')
def OwnB {β : Type} (b B : Nat) (I : β → World → Prop) : Prop :=
 ∀ s W W' row, I s W → W.grownBy W' row → (∀ r, row = some r → r = B ∨ (b ≤ r ∧ ∃ o : Obj, W.heap[r]? = some o ∧ o.isCells = false)) → I s W'
theorem OwnB.putObj {β : Type} {b B : Nat} {I : β → World → Prop} (h : OwnB b B I) {s : β} {W : World} {l : Nat} {o : Obj} (o' : Obj) (hs : I s W) (hb : b ≤ l) (hl : W.heap[l]? = some o) (ho : o.isCells = false) : I s (W.putObj l o') :=
 h s W _ (some l) hs (grownBy_putObj' W l o') (fun r e => by cases e; exact .inr ⟨hb, o, hl, ho⟩)
theorem OwnB.alloc {β : Type} {b B : Nat} {I : β → World → Prop} (h : OwnB b B I) {s : β} {W : World} (o : Obj) (hs : I s W) : I s (W.alloc o) :=
 h s W _ none hs (World.grownBy_alloc W o none) (fun r e => by cases e)
def postB (b B : Nat) (I : Nat → World → Prop) (Ix : Code → Nat → World → Prop) (i : Nat) (W : World) : Exit → Act → World → Prop
 | .normal, _, W' => KeepsFrom b W W' ∧ W'.heap[B]? = W.heap[B]? ∧ I i W'
 | .ret, _, W' => KeepsFrom b W W' ∧ Ix .ret i W'
 | .exit id, _, W' => KeepsFrom b W W' ∧ Ix (.exit id) i W'
 | .goto t, _, W' => KeepsFrom b W W' ∧ Ix (.goto t) i W'
 | .panic _, _, _ => False
 | .outgrown, _, _ => False
theorem wpIn_rangeB {α : Type} {P : Program} {g : Operand} {ps : Array Tmp} {assign body : Code} {Q : Exit → Act → World → Prop} {a : Act} {w : World}
  {gf : Nat} {lb : Array Value} (hg : a.eval g = .func (.func gf) #[] lb) (eg : ∀ args w, (callFunc gf args).run P w = .ok (.enter gf args) w)
  {encs : α → Array Value} {xs : List α} {B : Nat} {Pre : World → Prop} (hseq : IterB P gf lb encs xs B Pre) (hB : B < w.heap.size)
  (hPre : ∀ W, Below w.heap.size w W → Pre W) (hps : ∀ x, (encs x).size = ps.size)
  (I : Nat → World → Prop) (Ix : Code → Nat → World → Prop) (hI : OwnB w.heap.size B I) (hIx : ∀ c, OwnB w.heap.size B (Ix c)) (h0 : I 0 w) (a₁ : α → Act)
  (hassign : ∀ (l : Nat) (x : α) (W : World) (K : Act → World → Prop), K (a₁ x) W →
   assign.wpIn (Fence.wide.inRound l) 0 P (Exit.then K (fun _ _ _ => False)) { tmps := (ps.zip (encs x)).foldl (fun t (p, v) => t.setIfInBounds p v) a.tmps, defers := [] } W)
  (hbody : ∀ (l i : Nat) (hi : i < xs.length) (W : World), w.heap.size ≤ W.heap.size → I i W → body.wpIn (Fence.wide.inRound l) 0 P (postB w.heap.size B I Ix (i + 1) W) (a₁ xs[i]) W)
  (hdone : ∀ (D : Nat) (W : World), w.heap.size ≤ D → I xs.length W → W.heap[D]? = some (.deferred (some [])) → Q .normal { a with defers := { target := .collected D, args := #[] } :: a.defers } W)
  (hstop : ∀ (D : Nat) (c : Code) (i : Nat) (W : World), w.heap.size ≤ D → i ≤ xs.length → Ix c i W → W.heap[D]? = some (.deferred (some [])) → c.wpIn Fence.wide 0 P Q { a with defers := { target := .collected D, args := #[] } :: a.defers } W) :
  (Code.rangeFunc g ps assign body).wpIn Fence.wide 0 P Q a w := by
 refine wpIn_rangeFunc ?_
 intro fn hfn
 rw [Fence.wide_round]
 obtain ⟨rec, hrec⟩ : ∃ rec : LoopState → Option Code → Loop, rec = fun st pe => { state := st, pending := pe, fn, tmps := a.tmps, params := ps, assign, body, defers := w.heap.size } := ⟨_, rfl⟩
 obtain ⟨W1, hW1⟩ : ∃ W1, (w.alloc (.deferred (some []))).alloc (.loop (rec .ready none)) = W1 := ⟨_, rfl⟩
 have hsz1 : W1.heap.size = w.heap.size + 2 := by rw [← hW1]; simp
 have hL1 : W1.heap[w.heap.size + 1]? = some (.loop (rec .ready none)) := by
  rw [← hW1]; have := World.alloc_heap_new (w.alloc (.deferred (some []))) (.loop (rec .ready none)); rwa [World.size_alloc] at this
 have hK1 : W1.heap[w.heap.size]? = some (.deferred (some [])) := by
  rw [← hW1]; exact (Below.heap_alloc _ _ _ (by simp)).trans (World.alloc_heap_new w _)
 have hI1 : I 0 W1 := by rw [← hW1]; exact hI.alloc _ (hI.alloc _ h0)
 have hb1 : Below w.heap.size w W1 := by
  rw [← hW1]; exact ((Below.refl _ w).alloc (Nat.le_refl _) _).alloc (by simp) _
 have hne : ∀ {A A' : World} {k : Nat} {o : Obj}, A.grownBy A' (some B) → w.heap.size ≤ k → A.heap[k]? = some o → A'.heap[k]? = some o := fun hg' hk ho =>
  (hg'.block _ (Array.getElem?_eq_some_iff.1 ho).1 (fun e => by cases e; omega)).trans ho
 refine ⟨w.heap.size + 1, [{ target := .collected w.heap.size, args := #[] }], W1, { target := .fn (.func gf) lb, args := #[.func (.yield (w.heap.size + 1)) #[] #[]] }, W1, gf,
  #[.func (.yield (w.heap.size + 1)) #[] #[]] ++ lb, W1, ?_, ?_, fun _ _ => trivial, ?_, fun h => absurd h (by simp [Fence.wide]), ?_⟩
 ·rw [← hW1, hrec]; exact run_enterLoop_outer _ _ _ _ _
 ·simp only [resolve, hg]
  simp [go_sem]
 ·simp [invoke, go_sem, eg]
 ·refine (hseq (w.heap.size + 1)
   (fun i W => I i W ∧ w.heap.size + 2 ≤ W.heap.size ∧ W.heap[w.heap.size + 1]? = some (.loop (rec .ready none)) ∧ W.heap[w.heap.size]? = some (.deferred (some [])))
   (fun i W => ∃ c, Ix c i W ∧ W.heap[w.heap.size + 1]? = some (.loop (rec .done (some c))) ∧ W.heap[w.heap.size]? = some (.deferred (some [])))
   W1 (hPre W1 hb1)
   (fun i A A' hs hg' => ⟨hI i A A' (some B) hs.1 hg' (fun r e => by cases e; exact .inl rfl), Nat.le_trans hs.2.1 hg'.size, hne hg' (by omega) hs.2.2.1, hne hg' (Nat.le_refl _) hs.2.2.2⟩)
   (fun i A A' hs hg' => by
    obtain ⟨c, hc, hl, hk⟩ := hs
    exact ⟨c, hIx c i A A' (some B) hc hg' (fun r e => by cases e; exact .inl rfl), hne hg' (by omega) hl, hne hg' (Nat.le_refl _) hk⟩)
   ?_ ⟨hI1, by omega, hL1, hK1⟩).mono ?_
  ·rintro i hi W ⟨hin, hsz, hl, hk⟩
   have hlt : w.heap.size + 1 < W.heap.size := (Array.getElem?_eq_some_iff.1 hl).1
   have hy := run_yield (P := P) (args := encs xs[i]) hl (by rw [hrec]; exact hps xs[i])
   rw [hrec] at hy
   refine ⟨fn, _, assign, body, hy, roundIn_of_wpIn hfn (hassign _ xs[i] W _ ⟨_, run_beginRound hl (by rw [hrec]), ?_⟩)⟩
   have hl2 : (W.putObj (w.heap.size + 1) (.loop { rec .ready none with state := .busy })).heap[w.heap.size + 1]? = some (.loop { rec .ready none with state := .busy }) := World.putObj_heap_same hlt
   have hk2 : (W.putObj (w.heap.size + 1) (.loop { rec .ready none with state := .busy })).heap[w.heap.size]? = some (.deferred (some [])) := (World.putObj_heap_other (by omega)).trans hk
   have hB2 : (W.putObj (w.heap.size + 1) (.loop { rec .ready none with state := .busy })).heap[B]? = W.heap[B]? := World.putObj_heap_other (by omega)
   refine wpIn_mono (hbody _ i hi _ (by simp; omega) (hI.putObj _ hin (by omega) hl rfl)) ?_
   have fin : ∀ (jump : Option Code) (W3 : World), KeepsFrom w.heap.size (W.putObj (w.heap.size + 1) (.loop { rec .ready none with state := .busy })) W3 →
     (Instr.endRound (w.heap.size + 1) jump).run P W3 = .ok (.bool jump.isNone) (W3.putObj (w.heap.size + 1) (.loop (rec (if jump.isNone then .ready else .done) jump))) ∧
     W3.heap[w.heap.size + 1]? = some (.loop { rec .ready none with state := .busy }) ∧
     (W3.putObj (w.heap.size + 1) (.loop (rec (if jump.isNone then .ready else .done) jump))).heap[w.heap.size + 1]? = some (.loop (rec (if jump.isNone then .ready else .done) jump)) ∧
     (W3.putObj (w.heap.size + 1) (.loop (rec (if jump.isNone then .ready else .done) jump))).heap[w.heap.size]? = some (.deferred (some [])) := fun jump W3 hk3 => by
    have hl3 := hk3.same _ _ (by omega) hl2 rfl
    have := run_endRound (P := P) jump hl3
    rw [hrec] at this ⊢
    exact ⟨this, by rw [hrec] at hl3; exact hl3, World.putObj_heap_same (Array.getElem?_eq_some_iff.1 hl3).1, (World.putObj_heap_other (by omega)).trans (hk3.same _ _ (Nat.le_refl _) hk2 rfl)⟩
   rintro e a3 W3 hp
   cases e with
   | normal =>
    obtain ⟨hk3, hb3, hi3⟩ := hp
    obtain ⟨hr, hl3, hl4, hk4⟩ := fin none W3 hk3
    have hs3 : W.heap.size ≤ W3.heap.size := by have := hk3.size; simpa using this
    exact ⟨_, _, hr, .inl ⟨rfl, ⟨hI.putObj _ hi3 (by omega) hl3 rfl, by simp; omega, hl4, hk4⟩, by simpa using hs3, (World.putObj_heap_other (by omega)).trans (hb3.trans hB2)⟩⟩
   | ret =>
    obtain ⟨hk3, hi3⟩ := hp
    obtain ⟨hr, hl3, hl4, hk4⟩ := fin (some .ret) W3 hk3
    exact ⟨_, _, hr, .inr ⟨rfl, .ret, (hIx _).putObj _ hi3 (by omega) hl3 rfl, hl4, hk4⟩⟩
   | exit id =>
    obtain ⟨hk3, hi3⟩ := hp
    obtain ⟨hr, hl3, hl4, hk4⟩ := fin (some (.exit id)) W3 hk3
    exact ⟨_, _, hr, .inr ⟨rfl, .exit id, (hIx _).putObj _ hi3 (by omega) hl3 rfl, hl4, hk4⟩⟩
   | goto t =>
    obtain ⟨hk3, hi3⟩ := hp
    obtain ⟨hr, hl3, hl4, hk4⟩ := fin (some (.goto t)) W3 hk3
    exact ⟨_, _, hr, .inr ⟨rfl, .goto t, (hIx _).putObj _ hi3 (by omega) hl3 rfl, hl4, hk4⟩⟩
   | panic ch => exact hp.elim
   | outgrown => exact hp.elim
  ·rintro e W2 ⟨⟨v, rfl⟩, (⟨hi, _, hl, hk⟩ | ⟨i, hle, c, hi, hl, hk⟩)⟩
   ·exact ⟨none, _, by have := run_endLoop (P := P) hl (by rw [hrec]; simp); rw [hrec] at this; exact this, hdone _ _ (Nat.le_refl _) (hI.putObj _ hi (by omega) hl rfl) ((World.putObj_heap_other (by omega)).trans hk)⟩
   ·exact ⟨some c, _, by have := run_endLoop (P := P) hl (by rw [hrec]; simp); rw [hrec] at this; exact this, hstop _ c i _ (Nat.le_refl _) hle ((hIx c).putObj _ hi (by omega) hl rfl) ((World.putObj_heap_other (by omega)).trans hk)⟩
theorem boxed_ownB {W W' : World} {row : Option Nat} {R b B : Nat} {t : TypeId} {v : Value} (h : Boxed W R t v) (hg : W.grownBy W' row)
  (hr : ∀ r, row = some r → r = B ∨ (b ≤ r ∧ ∃ o : Obj, W.heap[r]? = some o ∧ o.isCells = false)) (hne : R ≠ B) : Boxed W' R t v :=
 h.kept hg (fun e => by
  rcases hr R e.symm with e' | ⟨_, o, ho, hc⟩
  ·exact hne e'
  ·rw [show W.heap[R]? = _ from h] at ho; cases ho; simp [Obj.isCells] at hc)
theorem below_ownB {w W W' : World} {row : Option Nat} {n b B : Nat} (h : Below n w W) (hn : n ≤ W.heap.size) (hg : W.grownBy W' row)
  (hr : ∀ r, row = some r → r = B ∨ (b ≤ r ∧ ∃ o : Obj, W.heap[r]? = some o ∧ o.isCells = false)) (hb : n ≤ b) (hB : n ≤ B) : Below n w W' :=
 h.grown hg hn (fun k e => by
  rcases hr k e with e' | ⟨h', _⟩ <;> omega)
theorem keeps_drewN (W : World) (n : Nat) : KeepsOthers W (W.drewN n) := ⟨Nat.le_refl _, fun _ _ h _ => h⟩
theorem heap_setCell_ne (W : World) (R B : Nat) (v : Value) (h : B ≠ R) : (W.setCell ⟨R, 0, none⟩ v).heap[B]? = W.heap[B]? := Below.heap_setCell _ _ _ B h
end Go.Proofs.YtljkopbalejcgaaDoor.P
end
section
set_option linter.unusedVariables false
set_option linter.unusedSimpArgs false
namespace Go.Proofs.YtljkopbalejcgaaDoor.P
open Go Go.RowKit Go.Lib Go.Proofs.YtljkopbalejcgaaDoorW.PrintWords
theorem wp_scope_once {P : Program} {a : Act} {w : World} {Q : Exit → Act → World → Prop} {c rest : Code} (l : Nat) (J : Act → World → Prop) (hf : findLabel c l = some rest)
  (first : c.wp P (Exit.jump l J Q) a w) (pass : ∀ a w, J a w → rest.wp P (Exit.jump l (fun _ _ => False) Q) a w) : (Code.scope c).wp P Q a w :=
 wp_scope_jumps l J (fun _ _ => 0) hf first (fun a w hJ => Code.wp_mono (fun e a w h => by cases e <;> first | exact h | exact ⟨h.1, h.2.elim⟩) (pass a w hJ))
set_option maxHeartbeats 1000000 in
theorem label_no (s : ByteArray) (w : World) (hs : s.size ≤ 140737488351232) (h : s.size < 1 ∨ 63 < s.size ∨ ∃ h : 0 < s.size, s[0] = 45 ∨ s[s.size - 1] = 45) :
  Calls Tryd.prog 48 #[.string s] w fun e w' => e = .returned (.tuple #[.bool false, .bool false]) ∧ ∃ n, w' = w.drewN n := by
 go_enter Tryd.func48, Tryd.ntmps48
 go_wp2
 refine wp_scope_once 0 (fun a' w' => a'.defers = [] ∧ a'.tmps.size = 53 ∧ ∃ n, w' = w.drewN n) rfl ?_ ?_
 ·by_cases h0 : s.size < 1
  ·clear h
   go_wp2
   go_step3
   exact ⟨rfl, rfl, rfl, 0, rfl⟩
  by_cases h1 : 63 < s.size
  ·clear h
   go_wp2
   go_step3
   exact ⟨rfl, rfl, rfl, 0, rfl⟩
  have hp : 0 < s.size := by omega
  have h : s[0] = 45 ∨ s[s.size - 1] = 45 := by
   rcases h with h | h | ⟨_, h⟩
   ·exact absurd h h0
   ·exact absurd h h1
   ·exact h
  have hm : 0 ≤ (s.size : Int) - 1 := by omega
  have hm2 : ((s.size : Int) - 1).toNat = s.size - 1 := by omega
  by_cases h2 : s[0] = 45
  ·have h2' : ((s[0].toNat : Int) == 45) = true := by rw [h2]; rfl
   clear h h2
   go_wp2
   go_step3
   exact ⟨rfl, rfl, rfl, 0, rfl⟩
  ·have h3 : s[s.size - 1] = 45 := h.resolve_left h2
   have h2' : ((s[0].toNat : Int) == 45) = false := by
    rw [beq_eq_false_iff_ne]; intro e; exact h2 (UInt8.toNat_inj.mp (show s[0].toNat = 45 by omega))
   have h3' : ((s[s.size - 1].toNat : Int) == 45) = true := by rw [h3]; rfl
   clear h h2 h3
   go_wp2
   go_step3
   exact ⟨rfl, rfl, rfl, 0, rfl⟩
 ·rintro ⟨tmps, defers⟩ w' ⟨rfl, hsz, n, rfl⟩
  go_wp2
  simp only [Exit.jump]
  refine bodyPost_ret (v := .tuple #[.bool false, .bool false]) ?_ rfl ⟨rfl, n, rfl⟩
  simp [results, Tryd.results48, go_sem, hsz]
set_option maxHeartbeats 2000000 in
set_option maxRecDepth 100000 in
theorem label_yes (s : ByteArray) (w : World) (hs : s.size ≤ 140737488351232) (h0 : 0 < s.size) (h1 : s.size ≤ 63) (h2 : s[0] ≠ 45) (h3 : s[s.size - 1] ≠ 45) :
    Calls Tryd.prog 48 #[.string s] w fun e w' => e = .returned (.tuple #[.bool (s.data.toList.all labelByte), .bool (s.data.toList.all labelByte && s.data.toList.all isDigit)]) ∧ ∃ n, w' = w.drewN n := by
  have h2' : ((s[0].toNat : Int) == 45) = false := by
    rw [beq_eq_false_iff_ne]; intro e; exact h2 (UInt8.toNat_inj.mp (show s[0].toNat = 45 by omega))
  have h3' : ((s[s.size - 1].toNat : Int) == 45) = false := by
    rw [beq_eq_false_iff_ne]; intro e; exact h3 (UInt8.toNat_inj.mp (show s[s.size - 1].toNat = 45 by omega))
  have hm : 0 ≤ (s.size : Int) - 1 := by omega
  have hm2 : ((s.size : Int) - 1).toNat = s.size - 1 := by omega
  clear h2 h3
  go_enter Tryd.func48, Tryd.ntmps48
  go_wp2
  refine wp_scope_once 0 (fun a' w' => a'.defers = [] ∧ a'.tmps.size = 53 ∧ s.data.toList.all labelByte = false ∧ ∃ n, w' = w.drewN n) rfl ?_ ?_
  · go_wp2
    go_loopg [3, 29] s.size (fun gk dg i wr => ∃ k : Nat, k ≤ s.size ∧ s.size - k ≤ gk ∧ i = .int .i64 k ∧ dg = .bool ((s.data.toList.take k).all isDigit) ∧ Aside0 ((s.data.toList.take k).all labelByte = true) ∧ wr = w)
    case atStart => exact ⟨0, by omega, by omega, rfl, rfl, ⟨rfl⟩, rfl⟩
    case round =>
      obtain ⟨k, hk, hg, rfl, rfl, HA, rfl⟩ := hrel
      by_cases hlt : k < s.size
      · have hb : 0 ≤ (s[k].toNat : Int) ∧ (s[k].toNat : Int) ≤ 255 := by have := s[k].toNat_lt; omega
        have TD := Lib.hid (take_all_succ s.data.toList isDigit k (by rw [len_eq]; exact hlt))
        have TL := Lib.hid (take_all_succ s.data.toList labelByte k (by rw [len_eq]; exact hlt))
        have TF := Lib.hid (all_false_of s.data.toList labelByte k (by rw [len_eq]; exact hlt))
        rw [at_eq s k hlt] at TD TL TF
        generalize hc : s[k] = c at hb TD TL TF
        go_wp2
        all_goals first
          | (go_step3
             exact ⟨rfl, rfl, rfl, TF.out (labelByte_f (by omega) (by omega) (by assumption)), 0, rfl⟩)
          | (go_roundg (s.size - (k + 1))
             case measure => omega
             case rel => exact ⟨k + 1, by omega, by omega, by go_num, by rw [TD.out]; first | rw [isDigit_t ⟨by omega, by omega⟩, Bool.and_true] | rw [isDigit_f (by omega), Bool.and_false], ⟨by rw [TL.out, HA.out]; exact labelByte_t (by first | exact .inl ⟨by omega, by omega⟩ | exact .inr (.inl ⟨by omega, by omega⟩) | exact .inr (.inr (by assumption)))⟩, rfl⟩)
      · have e : k = s.size := by omega
        subst e
        go_wp2
        simp only [Exit.jump]
        go_ret2
        exact ⟨by rw [List.take_of_length_le (by rw [len_eq]; omega)] at HA ⊢; rw [HA.out]; rfl, 0, rfl⟩
  · rintro ⟨tmps, defers⟩ w' ⟨rfl, hsz, hf, n, rfl⟩
    have HF := Lib.hid hf
    clear hf
    go_wp2
    simp only [Exit.jump]
    refine bodyPost_ret (v := .tuple #[.bool false, .bool false]) ?_ rfl ⟨by rw [HF.out]; rfl, n, rfl⟩
    simp [results, Tryd.results48, go_sem, hsz]
theorem head_eq (s : ByteArray) (h : 0 < s.size) : s.data.toList.head? = some s[0] := by
 rw [List.head?_eq_getElem?, List.getElem?_eq_getElem (by rw [len_eq]; exact h)]; rfl
theorem last_eq (s : ByteArray) (h : 0 < s.size) : s.data.toList.getLast? = some (s[s.size - 1]) := by
 rw [List.getLast?_eq_getElem?, len_eq, List.getElem?_eq_getElem (by rw [len_eq]; omega)]; rfl
theorem label_calls (s : ByteArray) (w : World) (hs : s.size ≤ 140737488351232) :
  Calls Tryd.prog 48 #[.string s] w fun e w' => e = .returned (.tuple #[.bool (labelOk s.data.toList), .bool (labelOk s.data.toList && s.data.toList.all isDigit)]) ∧ ∃ n, w' = w.drewN n := by
 by_cases h : s.size < 1 ∨ 63 < s.size ∨ ∃ h : 0 < s.size, s[0] = 45 ∨ s[s.size - 1] = 45
 ·have e : labelOk s.data.toList = false := by
   unfold labelOk
   rcases h with h | h | ⟨h0, h | h⟩
   ·simp [len_eq, show s.size = 0 by omega]
   ·simp [len_eq, show ¬ s.size ≤ 63 by omega]
   ·simp [head_eq s h0, h]
   ·simp [last_eq s h0, h]
  rw [e]
  exact label_no s w hs h
 ·have h0 : 0 < s.size := by omega
  have h1 : s.size ≤ 63 := by omega
  have h2 : s[0] ≠ 45 := fun e => h (.inr (.inr ⟨h0, .inl e⟩))
  have h3 : s[s.size - 1] ≠ 45 := fun e => h (.inr (.inr ⟨h0, .inr e⟩))
  have e : labelOk s.data.toList = s.data.toList.all labelByte := by
   unfold labelOk
   simp [len_eq, head_eq s h0, last_eq s h0, h2, h3, h1, show 1 ≤ s.size from h0]
  rw [e]
  exact label_yes s w hs h0 h1 h2 h3
end Go.Proofs.YtljkopbalejcgaaDoor.P
end
section
set_option linter.unusedVariables false
set_option linter.unusedSimpArgs false
namespace Go.Proofs.YtljkopbalejcgaaDoor.P
open Go Go.RowKit Go.Lib Go.Proofs.YtljkopbalejcgaaDoorW.PrintWords
attribute [local go_sem] Oper.semAt_some wide_fn wide_depth
def strLen (W : World) (B : Nat) : Nat := match W.cell? ⟨B, 0, none⟩ with
 | some (.string r) => r.size
 | _ => 0
theorem cut_lt (l : List UInt8) (c : UInt8) : (Lib.cut l [c]).2.1.length ≤ l.length ∧ ((Lib.cut l [c]).2.2 = true → (Lib.cut l [c]).2.1.length < l.length) := by
 unfold Lib.cut
 split
 ·rename_i h
  have h1 : Lib.index l [c] ≠ -1 := by omega
  have h2 : 0 < l.length := by
   cases l with
   | nil => exact absurd (by rfl : Lib.index [] [c] = -1) h1
   | cons b l => simp
  simp only [List.length_drop, List.length_cons, List.length_nil]
  exact ⟨by omega, fun _ => by omega⟩
 ·simp
theorem splitOn_len (c : UInt8) : ∀ (l : List UInt8), ∀ x ∈ splitOn c l, x.length ≤ l.length := by
 intro l
 induction l with
 | nil => simp [splitOn]
 | cons b l ih =>
  intro x hx
  simp only [splitOn] at hx
  split at hx
  ·rcases List.mem_cons.1 hx with rfl | hx
   ·simp
   ·have := ih x hx; simp; omega
  ·split at hx
   ·simp at hx; subst hx; simp
   ·rename_i y r he
    rcases List.mem_cons.1 hx with rfl | hx
    ·have := ih y (by rw [he]; simp); simpa using this
    ·have := ih x (by rw [he]; simp [hx]); simp; omega
theorem grown_drewN (B : Nat) (W : World) (n : Nat) : W.grownBy (W.drewN n) (some B) := ⟨rfl, rfl, rfl, Nat.le_refl _, fun _ _ _ => rfl⟩
set_option maxHeartbeats 2000000 in
set_option maxRecDepth 100000 in
theorem split_iter (B : Nat) (s : ByteArray) (hs : s.size ≤ 140737488351232) :
  IterB Tryd.prog 57 #[.pointer (some ⟨B, 0, none⟩)] (fun x : List UInt8 => #[.string ⟨x.toArray⟩]) (splitOn 46 s.data.toList) B (fun W => Boxed W B 9 (.string s)) := by
 intro l J Jx W hW hJ hJx hY h0
 refine callsIn_of_wp Tryd.func57 rfl trivial ?_ rfl
 simp only [Tryd.ntmps57, List.size_toArray, List.length_cons, List.length_nil, Nat.reduceAdd, Nat.reduceSub, Array.replicate_succ, Array.replicate_zero, List.push_toArray, List.append_toArray, List.nil_append, List.cons_append]
 gi_wp2
 gi_loopw [] (fun wr => ∃ (i : Nat) (r : ByteArray), i < (splitOn 46 s.data.toList).length ∧ (splitOn 46 s.data.toList).drop i = splitOn 46 r.data.toList ∧ r.size ≤ s.size ∧ Boxed wr B 9 (.string r) ∧ J i wr)
  (fun wr => strLen wr B)
 case atStart => exact ⟨0, s, List.length_pos_iff.2 (splitOn_ne _ _), rfl, Nat.le_refl _, hW, h0⟩
 case round =>
  obtain ⟨i, r, hi, hd, hr, hbx, hj⟩ := hrel
  have hc := hbx.cell
  have hf := hbx.frozen
  have hsp := splitOn_cut 46 r.data.toList
  have hlt := cut_lt r.data.toList 46
  rw [len_eq] at hlt
  gi_wp2_with (gi_at_call 44; refine (CallsIn.mono (callsIn_wide.2 (cut1 r 46 _ (by omega))) ?_); rintro e w' ⟨rfl, n, rfl⟩)
  generalize hq : Lib.cut r.data.toList [46] = q at hsp hlt
  obtain ⟨a, rest, more⟩ := q
  simp only at hsp hlt
  have he : (splitOn 46 s.data.toList)[i] = a := by
   have h1 : (splitOn 46 s.data.toList)[i] = (splitOn 46 r.data.toList)[0]'(by rw [← hd, List.length_drop]; omega) := by
    simp only [← hd, List.getElem_drop, Nat.add_zero]
   rw [h1]; simp only [hsp]; split <;> rfl
  obtain ⟨fn, tmps, assign, body, hy, hR⟩ := hY i hi (wr.drewN n) (hJ _ _ _ hj (grown_drewN B wr n))
  rw [he] at hy
  cases more with
  | true =>
   simp only [if_true] at hsp
   have HSP := Lib.hid hsp
   have HD := Lib.hid hd
   clear hsp hd hq he
   gi_wp2
   refine hR.mono ?_
   rintro e W3 (⟨rfl, hJ3, hs3, hB3⟩ | ⟨rfl, hJ3⟩)
   ·have hbx3 : Boxed W3 B 9 (.string r) := hB3.trans hbx
    have hc3 := hbx3.cell
    have hf3 := hbx3.frozen
    clear hB3
    gi_wp2
    go_roundw
    case rel =>
     have h1 : (splitOn 46 s.data.toList).drop i = a :: splitOn 46 rest := HD.out.trans HSP.out
     have h2 := congrArg List.length h1
     rw [List.length_drop, List.length_cons] at h2
     have h3 := List.length_pos_iff.2 (splitOn_ne 46 rest)
     refine ⟨i + 1, ⟨rest.toArray⟩, by omega, ?_, ?_, hbx3.set _, hJ _ _ _ hJ3 (grownBy_setCell' _ _ _)⟩
     ·rw [List.drop_add_one_eq_tail_drop, h1]; rfl
     ·show rest.toArray.size ≤ s.size
      rw [List.size_toArray]; omega
    case measure =>
     have h1 := (hbx3.set (.string ⟨rest.toArray⟩)).cell
     have h2 : rest.toArray.size < r.size := by rw [List.size_toArray]; exact hlt.2 trivial
     simp only [strLen, h1, hc]
     exact h2
   ·gi_wp2
    refine bodyPost_ret (results_none rfl _ _ _) rfl ?_
    exact ⟨⟨_, rfl⟩, .inr ⟨i + 1, by omega, hJ3⟩⟩
  | false =>
   simp only [Bool.false_eq_true, if_false] at hsp
   have hlen : i + 1 = (splitOn 46 s.data.toList).length := by
    have := congrArg List.length (hd.trans hsp); rw [List.length_drop] at this; simp at this; omega
   have HL := Lib.hid hlen
   clear hsp hd hq he hlen
   gi_wp2
   refine hR.mono ?_
   rintro e W3 (⟨rfl, hJ3, hs3, hB3⟩ | ⟨rfl, hJ3⟩)
   ·gi_wp2
    refine bodyPost_ret (results_none rfl _ _ _) rfl ?_
    exact ⟨⟨_, rfl⟩, .inl (by rw [← HL.out]; exact hJ3)⟩
   ·gi_wp2
    refine bodyPost_ret (results_none rfl _ _ _) rfl ?_
    exact ⟨⟨_, rfl⟩, .inr ⟨i + 1, by omega, hJ3⟩⟩
end Go.Proofs.YtljkopbalejcgaaDoor.P
end
section
namespace Go.Proofs.YtljkopbalejcgaaDoor.P
open Go.RowKit Go.Proofs.YtljkopbalejcgaaDoorW.PrintWords Go.Proofs.YtljkopbalejcgaaDoorW.PrintLast Go.Proofs.YtljkopbalejcgaaDoorW.PrintMore
attribute [local go_sem] max2_int min2_int max_two min_two max_three min_three max_four min_four
set_option linter.unusedVariables false
set_option linter.unusedSimpArgs false
open Go Go.Lib
set_option maxHeartbeats 400000 in
theorem split_calls (s : ByteArray) (w : World) :
  Calls Tryd.prog 47 #[.string s] w fun e w' => e = .returned (.func (.func 57) #[] #[.pointer (some ⟨w.heap.size, 0, none⟩)]) ∧ w' = w.alloc (.cells #[.string s] 9) := by
 go_enter Tryd.func47, Tryd.ntmps47
 go_wp2
 go_ret
 exact ⟨rfl, rfl⟩
def lastD (xs : List (List UInt8)) : Bool := match xs.getLast? with
 | none => false
 | some l => l.all isDigit
theorem lastD_succ (xs : List (List UInt8)) (i : Nat) (h : i < xs.length) : lastD (xs.take (i + 1)) = xs[i].all isDigit := by
 unfold lastD; rw [List.take_succ_eq_append_getElem h, List.getLast?_concat]
theorem lastD_all (xs : List (List UInt8)) (h : xs ≠ []) : lastD xs = (xs.getLast?.getD []).all isDigit := by
 unfold lastD
 cases hx : xs.getLast? with
 | none => exact absurd (List.getLast?_eq_none_iff.1 hx) h
 | some l => rfl
theorem take_all_succL (l : List (List UInt8)) (p : List UInt8 → Bool) (k : Nat) (h : k < l.length) : (l.take (k + 1)).all p = ((l.take k).all p && p l[k]) := by
 rw [List.take_succ_eq_append_getElem h, List.all_append]
 simp only [List.all_cons, List.all_nil, Bool.and_true]
theorem all_false_ofL (l : List (List UInt8)) (p : List UInt8 → Bool) (k : Nat) (h : k < l.length) (hp : p l[k] = false) : l.all p = false := by
 rw [List.all_eq_false]; exact ⟨l[k], List.getElem_mem h, by simp [hp]⟩
section
attribute [local go_sem] Oper.semAt_some wide_fn wide_depth
set_option maxHeartbeats 2000000 in
set_option maxRecDepth 100000 in
theorem may_in (s : ByteArray) (w : World) (hs : s.size ≤ 253) :
  CallsIn Fence.wide 0 Tryd.prog 34 #[.string s] w fun e w' => e = .returned (.bool (nameMay s.data.toList)) ∧ Below w.heap.size w w' := by
 have hnm : nameMay s.data.toList = ((splitOn 46 s.data.toList).all labelOk && !lastD (splitOn 46 s.data.toList)) := by
  unfold nameMay; rw [len_eq, lastD_all _ (splitOn_ne _ _)]; simp [hs]
 have hlen : ∀ i (h : i < (splitOn 46 s.data.toList).length), (splitOn 46 s.data.toList)[i].toArray.size ≤ 140737488351232 := fun i h => by
  have := splitOn_len 46 s.data.toList _ (List.getElem_mem h)
  rw [len_eq] at this; rw [List.size_toArray]; omega
 have HNM := Lib.hid hnm
 have HLEN := Lib.hid hlen
 clear hnm hlen
 refine callsIn_of_wp_marks Tryd.func34 rfl trivial ?_ rfl
 simp only [Tryd.ntmps34, List.size_toArray, List.length_cons, List.length_nil, Nat.reduceAdd, Nat.reduceSub, Array.replicate_succ, Array.replicate_zero, List.push_toArray, List.append_toArray, List.nil_append, List.cons_append]
 gi_wp2_with (gi_at_call 47; refine (CallsIn.mono (callsIn_wide.2 (split_calls s _)) ?_); rintro e w' ⟨rfl, rfl⟩)
 generalize hxs : splitOn 46 s.data.toList = xs at HNM HLEN
 have b0 := Boxed.new w 4 (.bool false)
 have b1 := Boxed.new (w.alloc (.cells #[.bool false] 4)) 4 (.bool false)
 have b2 := Boxed.new ((w.alloc (.cells #[.bool false] 4)).alloc (.cells #[.bool false] 4)) 9 (.string s)
 have hB0 : Below w.heap.size w (((w.alloc (.cells #[.bool false] 4)).alloc (.cells #[.bool false] 4)).alloc (.cells #[.string s] 9)) := (((Below.refl _ w).alloc (Nat.le_refl _) _).alloc (by simp) _).alloc (by simp; omega) _
 replace b0 := (b0.alloc (.cells #[.bool false] 4)).alloc (.cells #[.string s] 9)
 replace b1 := b1.alloc (.cells #[.string s] 9)
 have hsz : (((w.alloc (.cells #[.bool false] 4)).alloc (.cells #[.bool false] 4)).alloc (.cells #[.string s] 9)).heap.size = w.heap.size + 3 := by simp
 simp only [World.size_alloc] at b1 b2
 generalize hW0 : ((w.alloc (.cells #[.bool false] 4)).alloc (.cells #[.bool false] 4)).alloc (.cells #[.string s] 9) = W0 at b0 b1 b2 hB0 hsz
 clear hW0
 have hit := split_iter (w.heap.size + 1 + 1) s (by omega)
 rw [hxs] at hit
 refine wpIn_rangeB (gf := 57) (lb := #[.pointer (some ⟨w.heap.size + 1 + 1, 0, none⟩)]) rfl (enters_of Tryd.func57 (by kernel_rfl) rfl) hit (by omega)
  (fun W hb => (hb.block _ (by omega)).trans b2) (fun _ => rfl)
  (fun i W => (Boxed W w.heap.size 4 (.bool false) ∧ Boxed W (w.heap.size + 1) 4 (.bool (lastD (xs.take i))) ∧ (xs.take i).all labelOk = true) ∧ Below w.heap.size w W)
  (fun c i W => (c = .ret ∧ Boxed W w.heap.size 4 (.bool false) ∧ xs.all labelOk = false) ∧ Below w.heap.size w W)
  (fun i A A' row hs hg hr => ⟨⟨boxed_ownB hs.1.1 hg hr (by omega), boxed_ownB hs.1.2.1 hg hr (by omega), hs.1.2.2⟩, below_ownB hs.2 hs.2.size hg hr (by omega) (by omega)⟩)
  (fun c i A A' row hs hg hr => ⟨⟨hs.1.1, boxed_ownB hs.1.2.1 hg hr (by omega), hs.1.2.2⟩, below_ownB hs.2 hs.2.size hg hr (by omega) (by omega)⟩)
  ⟨⟨b0, b1, rfl⟩, hB0⟩
  (fun x => { tmps := #[.string s, undef, .pointer (some ⟨w.heap.size, 0, none⟩), .pointer (some ⟨w.heap.size + 1, 0, none⟩), .string ⟨x.toArray⟩, undef, undef, .string s, .int .i64 s.size, .bool (decide (253 < (s.size : Int))), .string s, .func (.func 57) #[] #[.pointer (some ⟨w.heap.size + 1 + 1, 0, none⟩)], .string ⟨x.toArray⟩, undef, undef, undef, undef, undef, undef, undef, undef, undef, undef], defers := [] }) ?assign ?body ?done ?stop
 case assign =>
  intro l x W K hK
  gi_wp2
  exact hK
 case body =>
  rintro l i hi W hsW ⟨⟨c0, c1, ha⟩, hB⟩
  have hlen := HLEN.out i hi
  have hs2 := Lib.hid (lastD_succ xs i hi)
  have hal := Lib.hid (take_all_succL xs labelOk i hi)
  have hof := Lib.hid (all_false_ofL xs labelOk i hi)
  have hcal : ∀ W, Calls Tryd.prog 48 #[.string ⟨xs[i].toArray⟩] W fun e w' => e = .returned (.tuple #[.bool (labelOk xs[i]), .bool (labelOk xs[i] && xs[i].all isDigit)]) ∧ ∃ n, w' = W.drewN n := fun W => label_calls ⟨xs[i].toArray⟩ W hlen
  generalize xs[i] = x at hlen hs2 hal hof hcal
  have cc0 := c0.cell
  have cf0 := c0.frozen
  have cc1 := c1.cell
  have cf1 := c1.frozen
  cases hok : labelOk x with
  | true =>
   rw [hok] at hcal
   simp only [Bool.true_and] at hcal
   gi_wp2_with (gi_at_call 48; refine (CallsIn.mono (CallsIn.inRound l (callsIn_wide.2 (hcal _))) ?_); rintro e w' ⟨rfl, n, rfl⟩)
   exact ⟨((keeps_drewN W n).trans (KeepsOthers.setCell _ _ _)).from _, heap_setCell_ne _ _ _ _ (by omega), ⟨⟨Boxed.other (W := W.drewN n) c0 (by omega) _, by rw [hs2.out]; exact Boxed.set (W := W.drewN n) _ c1, by rw [hal.out, ha, hok]; rfl⟩, (pw_below_drewN hB n).setCell (p := ⟨w.heap.size + 1, 0, none⟩) (by simp) _⟩⟩
  | false =>
   rw [hok] at hcal
   simp only [Bool.false_and] at hcal
   gi_wp2_with (gi_at_call 48; refine (CallsIn.mono (CallsIn.inRound l (callsIn_wide.2 (hcal _))) ?_); rintro e w' ⟨rfl, n, rfl⟩)
   exact ⟨((keeps_drewN W n).trans (KeepsOthers.setCell _ _ _)).from _, ⟨⟨rfl, Boxed.set (W := W.drewN n) _ c0, hof.out hok⟩, (pw_below_drewN hB n).setCell (p := ⟨w.heap.size, 0, none⟩) (by simp) _⟩⟩
 case done =>
  rintro D W hD ⟨⟨c0, c1, ha⟩, hB⟩ hK
  have cc0 := c0.cell
  have cf0 := c0.frozen
  have cc1 := c1.cell
  have cf1 := c1.frozen
  gi_wp2
  have hK' := (KeepsOthers.setCell W ⟨w.heap.size, 0, none⟩ (.bool (!lastD xs))).same D _ hK rfl
  refine ⟨by simp, .inl ⟨_, _, rfl, run_takeDeferred hK', ?_⟩⟩
  have hc5 := cell_kept (World.cell?_setCell_same' W ⟨w.heap.size, 0, none⟩ (.bool (!lastD xs)) (by rw [cc0]; rfl)) (grownBy_putObj' _ D (.deferred none)) (fun r e => by cases e; exact ⟨_, hK', rfl⟩)
  rw [List.take_length] at ha
  refine ⟨.bool (!lastD xs), ?_, by rw [HNM.out, ha, Bool.true_and], (hB.setCell (p := ⟨w.heap.size, 0, none⟩) (by simp) _).trans (belowK_b (w := w) (Nat.le_refl _) _ D _ _ (by omega) hK' rfl rfl)⟩
  simp [results, Tryd.f34, go_sem, hc5]
 case stop =>
  rintro D c i W hD hi ⟨⟨rfl, c0, ha⟩, hB⟩ hK
  gi_wp2
  refine ⟨by simp, .inl ⟨_, _, rfl, run_takeDeferred hK, ?_⟩⟩
  have hc5 := cell_kept c0.cell (grownBy_putObj' _ D (.deferred none)) (fun r e => by cases e; exact ⟨_, hK, rfl⟩)
  refine ⟨.bool false, ?_, by rw [HNM.out, ha, Bool.false_and], hB.trans (belowK_b (w := w) (Nat.le_refl _) W D _ _ (by omega) hK rfl rfl)⟩
  simp [results, Tryd.f34, go_sem, hc5]
end
def name_May.f (a : ByteArray) : Option Bool := if a.size ≤ 140737488351232 then some (nameMay a.data.toList) else none
set_option maxHeartbeats 1000000 in
theorem may_long (s : ByteArray) (w : World) (hs : s.size ≤ 140737488351232) (h : 253 < s.size) :
  Calls Tryd.prog 34 #[.string s] w fun e w' => e = .returned (.bool (nameMay s.data.toList)) ∧ Below w.heap.size w w' := by
 have hn : nameMay s.data.toList = false := by unfold nameMay; rw [len_eq]; simp [show ¬ s.size ≤ 253 by omega]
 have HN := Lib.hid hn
 clear hn
 go_enter Tryd.func34, Tryd.ntmps34
 go_wp2
 refine bodyPost_ret (v := .bool false) (by simp [results, Tryd.results34, go_sem]) rfl ⟨by rw [HN.out], (Below.refl _ _).alloc (Nat.le_refl _) _⟩
theorem name_May.calls (a : ByteArray) (r : Bool) (w : World) (h : name_May.f a = some r) :
  Calls Tryd.prog 34 #[.string a] w fun e w' => e = .returned (.bool r) ∧ Below w.heap.size w w' := by
 unfold name_May.f at h
 split at h
 ·rename_i hs
  obtain rfl := Option.some.inj h
  by_cases hl : a.size ≤ 253
  ·exact callsIn_wide.1 (may_in a w hl)
  ·exact may_long a w hs (by omega)
 ·simp at h
end Go.Proofs.YtljkopbalejcgaaDoor.P
end
section
set_option linter.unusedVariables false
set_option linter.unusedSimpArgs false
namespace Go.Proofs.YtljkopbalejcgaaDoor.P
open Go Go.RowKit Go.Lib
def BRow (W : World) (B : Nat) (l : List UInt8) : Prop := ∀ (j : Nat) (h : j < l.length), W.cell? ⟨B, j, none⟩ = some (.int .u8 l[j].toNat) ∧ W.frozen? ⟨B, j, none⟩ = false
theorem brow_conv (w : World) (e : TypeId) (s : ByteArray) : BRow (bytesWorld w e s) w.heap.size s.data.toList := fun j h => by
 have h' : j < s.size := by rw [← len_eq]; exact h
 refine ⟨by rw [bytesWorld_cell w e s j h']; simp [List.getD, h'], ?_⟩
 have hs : s.size ≤ (bytesCells w e s).size := by simp only [bytesCells, Array.size_append, Array.size_map]; exact Nat.le_add_right _ _
 have h1 : ¬ (bytesCells w e s).size ≤ j := by omega
 simp [World.frozen?, bytesWorld_at_new, h1]
theorem below_conv (w : World) (e : TypeId) (s : ByteArray) : Below w.heap.size w (bytesWorld w e s) :=
 ⟨by simp [bytesWorld, World.freeze, World.alloc, World.drew, -World.alloc_eq, -World.drew_eq], by simp [bytesWorld, World.freeze, World.alloc, World.drew, -World.alloc_eq, -World.drew_eq], by simp [bytesWorld, World.freeze, World.alloc, World.drew, -World.alloc_eq, -World.drew_eq], by rw [bytesWorld_size]; omega, fun i hi => bytesWorld_at_old w e s i hi⟩
theorem brow_set {W : World} {B : Nat} {l : List UInt8} (h : BRow W B l) (k : Nat) (hk : k < l.length) (c : UInt8) : BRow (W.setCell ⟨B, k, none⟩ (.int .u8 c.toNat)) B (l.set k c) := fun j hj => by
 have hj' : j < l.length := by rw [List.length_set] at hj; exact hj
 refine ⟨?_, by rw [World.frozen?_setCell]; exact (h j hj').2⟩
 by_cases e : j = k
 ·subst e
  rw [World.cell?_setCell_same _ _ _ (h j hj').1]; simp
 ·rw [World.cell?_setCell_other _ _ _ _ (by intro e'; exact e (by cases e'; rfl)), (h j hj').1, List.getElem_set_ne (fun e' => e e'.symm)]
theorem brow_of_block {W W' : World} {B : Nat} {l : List UInt8} (h : BRow W B l) (e : W'.heap[B]? = W.heap[B]?) : BRow W' B l := fun j hj =>
 ⟨(World.cell?_of_block e).trans (h j hj).1, (World.frozen?_of_block e).trans (h j hj).2⟩
theorem brow_below {n : Nat} {W W' : World} {B : Nat} {l : List UInt8} (h : BRow W B l) (hb : Below n W W') (hB : B < n) : BRow W' B l := brow_of_block h (hb.block B hB)
theorem strOfNums_bytes (l : List UInt8) : strOfNums (l.map fun b => (b.toNat : Int)) = ⟨l.toArray⟩ := by
 unfold strOfNums
 rw [List.map_map]
 congr 2
 refine (List.map_congr_left (g := id) fun c _ => ?_).trans (List.map_id _)
 simp
theorem brow_str {P : Program} {W : World} {B : Nat} {l : List UInt8} (h : BRow W B l) (src e dst : TypeId) (hs : P.underlying src = some (.slice e)) (he : P.underlying e = some (.int .u8)) (hd : P.underlying dst = some .string) (cap : Nat) :
  (convert src dst (.slice (some ⟨B, 0, none⟩) l.length cap)).run P W = .ok (.string ⟨l.toArray⟩) W := by
 rw [← strOfNums_bytes]
 refine run_convert_bytes_arg W src e hs he B 0 l.length cap (l.map fun b => (b.toNat : Int)) (by simp) (fun i hi => ?_) dst hd
 rw [Nat.zero_add, (h i hi).1]
 simp [List.getD, hi]
theorem upper_t {c : UInt8} (h : 97 ≤ (c.toNat : Int) ∧ (c.toNat : Int) ≤ 122) : (((upper c).toNat : Nat) : Int) = (c.toNat : Int) - 32 := by
 unfold upper; rw [if_pos (isLower_t h)]
 rw [UInt8.toNat_sub_of_le _ _ (by rw [UInt8.le_iff_toNat_le]; show 32 ≤ c.toNat; omega)]
 show ((c.toNat - 32 : Nat) : Int) = _; omega
theorem upper_f {c : UInt8} (h : ¬ (97 ≤ (c.toNat : Int) ∧ (c.toNat : Int) ≤ 122)) : upper c = c := by
 unfold upper; rw [isLower_f h]; rfl
theorem lower_t {c : UInt8} (h : 65 ≤ (c.toNat : Int) ∧ (c.toNat : Int) ≤ 90) : (((lower c).toNat : Nat) : Int) = (c.toNat : Int) + 32 := by
 unfold lower; rw [if_pos (isUpper_t h)]
 rw [UInt8.toNat_add]
 show (((c.toNat + 32) % 256 : Nat) : Int) = _; omega
theorem lower_f {c : UInt8} (h : ¬ (65 ≤ (c.toNat : Int) ∧ (c.toNat : Int) ≤ 90)) : lower c = c := by
 unfold lower; rw [isUpper_f h]; rfl
def turned (f : UInt8 → UInt8) (l : List UInt8) (k : Nat) : List UInt8 := (l.take k).map f ++ l.drop k
theorem turned_len (f : UInt8 → UInt8) (l : List UInt8) (k : Nat) : (turned f l k).length = l.length := by
 unfold turned; simp; omega
theorem turned_at (f : UInt8 → UInt8) (l : List UInt8) (k : Nat) (h : k < l.length) : (turned f l k)[k]'(by rw [turned_len]; exact h) = l[k] := by
 unfold turned
 rw [List.getElem_append_right (by simp; omega)]
 simp [Nat.min_eq_left (Nat.le_of_lt h)]
theorem turned_succ (f : UInt8 → UInt8) (l : List UInt8) (k : Nat) (h : k < l.length) : (turned f l k).set k (f l[k]) = turned f l (k + 1) := by
 apply List.ext_getElem
 ·rw [List.length_set, turned_len, turned_len]
 ·intro j h1 h2
  rw [List.length_set, turned_len] at h1
  unfold turned at *
  by_cases e : j = k
  ·subst e
   rw [List.getElem_set_self, List.getElem_append_left (by simp; omega)]
   simp
  ·rw [List.getElem_set_ne (fun e' => e e'.symm)]
   by_cases hlt : j < k
   ·rw [List.getElem_append_left (by simp; omega), List.getElem_append_left (by simp; omega)]
    simp
   ·rw [List.getElem_append_right (by simp; omega), List.getElem_append_right (by simp; omega)]
    simp [Nat.min_eq_left (Nat.le_of_lt h), Nat.min_eq_left (show k + 1 ≤ l.length from h)]
    congr 1; omega
theorem turned_keep (f : UInt8 → UInt8) (l : List UInt8) (k : Nat) (h : k < l.length) (hf : f l[k] = l[k]) : turned f l (k + 1) = turned f l k := by
 rw [← turned_succ f l k h, hf, ← turned_at f l k h, List.set_getElem_self]
theorem turned_zero (f : UInt8 → UInt8) (l : List UInt8) : turned f l 0 = l := by simp [turned]
theorem turned_all (f : UInt8 → UInt8) (l : List UInt8) : turned f l l.length = l.map f := by simp [turned]
end Go.Proofs.YtljkopbalejcgaaDoor.P
end
section
namespace Go.Proofs.YtljkopbalejcgaaDoor.P
open Go.RowKit Go.Proofs.YtljkopbalejcgaaDoorW.PrintWords Go.Proofs.YtljkopbalejcgaaDoorW.PrintLast Go.Proofs.YtljkopbalejcgaaDoorW.PrintMore
attribute [local go_sem] max2_int min2_int max_two min_two max_three min_three max_four min_four
set_option linter.unusedVariables false
set_option linter.unusedSimpArgs false
open Go Go.Lib
theorem trimSuffix_len (l p : List UInt8) : (Lib.trimSuffix l p).length ≤ l.length := by
 unfold Lib.trimSuffix; split
 ·rw [List.length_take]; omega
 ·exact Nat.le_refl _
set_option maxHeartbeats 2000000 in
set_option maxRecDepth 100000 in
theorem fold_loop (s : ByteArray) (w : World) (hs : s.size ≤ 140737488351232) (r : Bool) (hm : ∀ W, Calls Tryd.prog 34 #[.string ⟨(foldT s.data.toList).toArray⟩] W fun e w' => e = .returned (.bool r) ∧ Below W.heap.size W w') :
  Calls Tryd.prog 63 #[.string s] w fun e w' => e = .returned (.tuple #[.string (if r then ⟨(foldT s.data.toList).toArray⟩ else ⟨#[]⟩), .int .i64 (if r then 0 else 4)]) ∧ Below w.heap.size w w' := by
 have htl := trimSuffix_len s.data.toList [46]
 rw [len_eq] at htl
 unfold foldT at hm ⊢
 generalize ht : Lib.trimSuffix s.data.toList [46] = t at htl hm ⊢
 have HT := Lib.hid ht
 clear ht
 have hcv := _root_.Go.Lib.run_convert_string_bytes (P := Tryd.prog) w 9 59 5 ⟨t.toArray⟩ Tryd.underlying9 Tryd.underlying59 Tryd.underlying5
 have hrow := brow_conv w 5 ⟨t.toArray⟩
 have hbel := below_conv w 5 ⟨t.toArray⟩
 rw [show (⟨t.toArray⟩ : ByteArray).size = t.length from List.size_toArray] at hcv
 rw [show (⟨t.toArray⟩ : ByteArray).data.toList = t from rfl] at hrow
 have hsz1 := bytesWorld_size w 5 ⟨t.toArray⟩
 generalize bytesWorld w 5 ⟨t.toArray⟩ = W1 at hcv hrow hbel hsz1
 replace hsz1 : w.heap.size < W1.heap.size := by omega
 generalize grownCap w t.length 0 5 = cap at hcv
 have HR : Aside0 (BRow W1 w.heap.size t) := ⟨hrow⟩
 have HB : Aside0 (Below w.heap.size w W1) := ⟨hbel⟩
 have HM : Aside0 (∀ W, Calls Tryd.prog 34 #[.string ⟨(t.map lower).toArray⟩] W fun e w' => e = .returned (.bool r) ∧ Below W.heap.size W w') := ⟨hm⟩
 clear hrow hbel hm
 go_enter Tryd.func63, Tryd.ntmps63
 go_wp2_with (go_at_call 71; refine (Tryd.strings_TrimSuffix s ⟨#[46]⟩ _ (by omega)).mono ?_; rintro e w' ⟨rfl, hw⟩; obtain rfl := hw.symm; clear hw; rw [show Lib.trimSuffix s.data.toList (⟨#[46]⟩ : ByteArray).data.toList = t from HT.out])
 go_loopg [12] t.length (fun gk i wr => ∃ k : Nat, k ≤ t.length ∧ t.length - k ≤ gk ∧ i = .int .i64 k ∧ Aside0 (BRow wr w.heap.size (turned lower t k)) ∧ Aside0 (Below w.heap.size w wr) ∧ w.heap.size < wr.heap.size)
 case atStart => exact ⟨0, by omega, by omega, rfl, ⟨by rw [turned_zero]; exact HR.out⟩, HB, hsz1⟩
 case round =>
  clear HR HB hcv hsz1
  obtain ⟨k, hk, hg, rfl, HR, HB, hsz⟩ := hrel
  by_cases hlt : k < t.length
  ·have hat := turned_at lower t k hlt
   have hcell := HR.out k (by rw [turned_len]; exact hlt)
   rw [hat] at hcell
   obtain ⟨hc, hf⟩ := hcell
   have HS := Lib.hid (turned_succ lower t k hlt)
   have HK := Lib.hid (turned_keep lower t k hlt)
   have hu1 := @lower_t t[k]
   have hu2 := @lower_f t[k]
   generalize t[k] = c at hc HS HK hu1 hu2
   have HU1 := Lib.hid hu1
   have HU2 := Lib.hid hu2
   clear hat hu1 hu2
   have hb : 0 ≤ (c.toNat : Int) ∧ (c.toNat : Int) ≤ 255 := by have := c.toNat_lt; omega
   go_wp2
   all_goals
    go_roundg (t.length - (k + 1))
    case measure => omega
    case rel => first
     | exact ⟨k + 1, by omega, by omega, by go_num, ⟨by rw [← HS.out, show (c.toNat : Int) - 65 + 97 = ((lower c).toNat : Int) by rw [HU1.out ⟨by omega, by omega⟩]; omega]; exact brow_set HR.out k (by rw [turned_len]; exact hlt) (lower c)⟩, ⟨HB.out.setCell (p := ⟨w.heap.size, k, none⟩) (Nat.le_refl _) _⟩, by simpa using hsz⟩
     | exact ⟨k + 1, by omega, by omega, by go_num, ⟨by rw [HK.out (HU2.out (by omega))]; exact HR.out⟩, HB, hsz⟩
  ·have e : k = t.length := by omega
   subst e
   have hs2 := brow_str (P := Tryd.prog) HR.out 59 5 9 Tryd.underlying59 Tryd.underlying5 Tryd.underlying9 cap
   rw [turned_len, turned_all] at hs2
   cases r with
   | true =>
    go_wp2_with (go_at_call 34; refine (HM.out _).mono ?_; rintro e w3 ⟨rfl, hb3⟩; have hs3 := brow_str (P := Tryd.prog) (brow_below HR.out hb3 hsz) 59 5 9 Tryd.underlying59 Tryd.underlying5 Tryd.underlying9 cap; rw [turned_len, turned_all] at hs3)
    go_ret2
    exact ⟨rfl, below_then HB.out (Nat.le_of_lt hsz) hb3⟩
   | false =>
    go_wp2_with (go_at_call 34; refine (HM.out _).mono ?_; rintro e w3 ⟨rfl, hb3⟩)
    go_ret2
    exact ⟨rfl, below_then HB.out (Nat.le_of_lt hsz) hb3⟩
def name_Fold.f (a : ByteArray) : Option (ByteArray × Int) := if a.size ≤ 140737488351232 then some (match foldName a.data.toList with
 | some l => (⟨l.toArray⟩, 0)
 | none => (⟨#[]⟩, 4)) else none
theorem name_Fold.calls (a : ByteArray) (r1 : ByteArray) (r2 : Int) (w : World) (h : name_Fold.f a = some (r1, r2)) :
  Calls Tryd.prog 63 #[.string a] w fun e w' => e = .returned (.tuple #[.string r1, .int .i64 r2]) ∧ Below w.heap.size w w' := by
 unfold name_Fold.f at h
 split at h
 ·rename_i hs
  have hl : (foldT a.data.toList).length ≤ a.size := by
   unfold foldT; rw [List.length_map]; have := trimSuffix_len a.data.toList [46]; rw [len_eq] at this; exact this
  have hm : ∀ W, Calls Tryd.prog 34 #[.string ⟨(foldT a.data.toList).toArray⟩] W fun e w' => e = .returned (.bool (nameMay (foldT a.data.toList))) ∧ Below W.heap.size W w' := fun W =>
   name_May.calls _ _ W (by unfold name_May.f; rw [if_pos (by show (foldT a.data.toList).toArray.size ≤ _; rw [List.size_toArray]; omega)])
  have hc := fold_loop a w hs _ hm
  obtain h := Option.some.inj h
  unfold foldName at h
  cases hn : nameMay (foldT a.data.toList) with
  | true => rw [hn] at hc h; simp only [if_true, Prod.mk.injEq] at h hc; obtain ⟨rfl, rfl⟩ := h; exact hc
  | false => rw [hn] at hc h; simp only [Bool.false_eq_true, if_false, Prod.mk.injEq] at h hc; obtain ⟨rfl, rfl⟩ := h; exact hc
 ·simp at h
end Go.Proofs.YtljkopbalejcgaaDoor.P
end
section
set_option linter.unusedVariables false
set_option linter.unusedSimpArgs false
namespace Go.Proofs.YtljkopbalejcgaaDoor.P
open Go Go.RowKit Go.Lib Go.Proofs.YtljkopbalejcgaaDoorW.PrintWords
set_option maxHeartbeats 1000000 in
theorem each_any {σ : Type} (step : σ → UInt8 → σ) (ok : σ → UInt8 → Bool) (Inv : σ → World → Prop) (g : Nat) (lb : Array Value)
  (eg : ∀ args w, (callFunc g args).run Tryd.prog w = .ok (.enter g args) w)
  (hstep : ∀ m c W, Inv m W → Calls Tryd.prog g (#[.int .u8 c.toNat] ++ lb) W fun e W' => e = .returned (.bool (ok m c)) ∧ Inv (step m c) W')
  (s : ByteArray) (hs : s.size ≤ 140737488351232) (m : σ) (w : World) (h0 : Inv m w) :
  Calls Tryd.prog 80 #[.string s, .func (.func g) #[] lb] w fun e w' => e = .returned (.bool (runS step ok m s.data.toList).1) ∧ Inv (runS step ok m s.data.toList).2 w' := by
 have HI : Aside0 (Inv m w) := ⟨h0⟩
 clear h0
 go_enter Tryd.func80, Tryd.ntmps80
 go_wp2
 go_loopg [8] s.size (fun gk i wr => ∃ (k : Nat) (m1 : σ), k ≤ s.size ∧ s.size - k ≤ gk ∧ i = .int .i64 k ∧ Aside0 (Inv m1 wr) ∧ Aside0 (runS step ok m s.data.toList = runS step ok m1 (s.data.toList.drop k)))
 case atStart => exact ⟨0, m, by omega, by omega, rfl, HI, ⟨rfl⟩⟩
 case round =>
  clear HI
  obtain ⟨k, m1, hk, hg, rfl, HI, HR⟩ := hrel
  by_cases hlt : k < s.size
  ·have hd : s.data.toList.drop k = s[k] :: s.data.toList.drop (k + 1) := by
    rw [List.drop_eq_getElem_cons (by rw [len_eq]; exact hlt)]; rfl
   have hcall := hstep m1 s[k] wr HI.out
   have HD := Lib.hid hd
   clear hd
   generalize hc : s[k] = c at HD hcall
   cases hok : ok m1 c with
   | true =>
    rw [hok] at hcall
    have HC : Aside0 (runS step ok m s.data.toList = runS step ok (step m1 c) (s.data.toList.drop (k + 1))) := ⟨by rw [HR.out, HD.out]; simp only [runS]; rw [if_pos hok]⟩
    go_wp2_with (go_at_fn g; refine hcall.mono ?_; rintro e w' ⟨rfl, hi⟩; have HI2 : Aside0 (Inv (step m1 c) w') := ⟨hi⟩; clear hi)
    go_roundg (s.size - (k + 1))
    case measure => omega
    case rel => exact ⟨k + 1, step m1 c, by omega, by omega, by go_num, HI2, HC⟩
   | false =>
    rw [hok] at hcall
    have HC : Aside0 (runS step ok m s.data.toList = (false, step m1 c)) := ⟨by rw [HR.out, HD.out]; simp only [runS]; rw [if_neg (by rw [hok]; exact Bool.false_ne_true)]⟩
    go_wp2_with (go_at_fn g; refine hcall.mono ?_; rintro e w' ⟨rfl, hi⟩; have HI2 : Aside0 (Inv (step m1 c) w') := ⟨hi⟩; clear hi)
    go_ret
    exact ⟨by rw [HC.out]; rfl, by rw [HC.out]; exact HI2.out⟩
  ·have e : k = s.size := by omega
   subst e
   have HC : Aside0 (runS step ok m s.data.toList = (true, m1)) := ⟨by rw [HR.out, List.drop_of_length_le (by rw [len_eq]; omega)]; rfl⟩
   go_wp2
   go_ret
   exact ⟨by rw [HC.out]; rfl, by rw [HC.out]; exact HI.out⟩
theorem boxed_drewN' {W : World} {R : Nat} {t : TypeId} {v : Value} (h : Boxed W R t v) (n : Nat) : Boxed (W.drewN n) R t v := h
set_option maxHeartbeats 1000000 in
theorem letter_calls (c : UInt8) (w : World) : Calls Tryd.prog 82 #[.int .u8 c.toNat] w fun e w' => e = .returned (.bool (isAlnum c)) ∧ w' = w := by
 have hb : 0 ≤ (c.toNat : Int) ∧ (c.toNat : Int) ≤ 255 := by have := c.toNat_lt; omega
 have HE := Lib.hid (show isAlnum c = ((decide (97 ≤ (c.toNat : Int)) && decide ((c.toNat : Int) ≤ 122)) || (decide (65 ≤ (c.toNat : Int)) && decide ((c.toNat : Int) ≤ 90)) || (decide (48 ≤ (c.toNat : Int)) && decide ((c.toNat : Int) ≤ 57))) by unfold isAlnum; rw [isLower_eq, isUpper_eq, isDigit_eq])
 go_enter Tryd.func82, Tryd.ntmps82
 go_wp2
 all_goals
  go_ret
  refine ⟨congrArg (fun b => Ending.returned (.bool b)) ?_, rfl⟩
  rw [HE.out, Bool.eq_iff_iff]
  simp
  try omega
set_option maxHeartbeats 1000000 in
theorem atomStep_calls (n D : Nat) (hD : n ≤ D) (m : Bool) (c : UInt8) (W0 W : World) (h : Boxed W D 4 (.bool m) ∧ Below n W0 W) :
  Calls Tryd.prog 81 (#[.int .u8 c.toNat] ++ #[.pointer (some ⟨D, 0, none⟩)]) W fun e W' => e = .returned (.bool (atomOk m c)) ∧ Boxed W' D 4 (.bool (atomStep m c)) ∧ Below n W0 W' := by
 obtain ⟨hb, hB⟩ := h
 have hc := hb.cell
 have hf := hb.frozen
 have fin : ∀ (b d : Bool) (k : Nat), b = atomOk m c → d = atomStep m c → (Ending.returned (.bool b) = .returned (.bool (atomOk m c)) ∧ Boxed ((W.setCell ⟨D, 0, none⟩ (.bool d)).drewN k) D 4 (.bool (atomStep m c)) ∧ Below n W0 ((W.setCell ⟨D, 0, none⟩ (.bool d)).drewN k)) := by
  intro b d k hb2 hd2
  subst hb2 hd2
  exact ⟨rfl, boxed_drewN' (hb.set _) k, pw_below_drewN (hB.setCell (p := ⟨D, 0, none⟩) hD _) k⟩
 have FIN : Aside0 (∀ (b d : Bool) (k : Nat), b = atomOk m c → d = atomStep m c → (Ending.returned (.bool b) = .returned (.bool (atomOk m c)) ∧ Boxed ((W.setCell ⟨D, 0, none⟩ (.bool d)).drewN k) D 4 (.bool (atomStep m c)) ∧ Below n W0 ((W.setCell ⟨D, 0, none⟩ (.bool d)).drewN k))) := ⟨fin⟩
 clear fin hb hB
 have hbc : 0 ≤ (c.toNat : Int) ∧ (c.toNat : Int) ≤ 255 := by have := c.toNat_lt; omega
 by_cases h46 : c = 46
 ·have e46 : ((c.toNat : Int) == 46) = true := by rw [h46]; rfl
  have n46 : (c == 46) = true := by simpa using h46
  have E46 := Lib.hid n46
  clear n46 h46
  cases m with
  | true =>
   go_enter Tryd.func81, Tryd.ntmps81
   go_wp2
   go_ret
   exact FIN.out _ _ 0 (by unfold atomOk; rw [E46.out]; rfl) (by unfold atomStep; rw [E46.out])
  | false =>
   go_enter Tryd.func81, Tryd.ntmps81
   go_wp2
   go_ret
   exact FIN.out _ _ 0 (by unfold atomOk; rw [E46.out]; rfl) (by unfold atomStep; rw [E46.out])
 ·have e46 : ((c.toNat : Int) == 46) = false := by rw [← show ((46 : UInt8).toNat : Int) = 46 from rfl, ← u8_beq]; simpa using h46
  have n46 : (c == 46) = false := by simpa using h46
  have E46 := Lib.hid n46
  clear n46
  have hal : ∀ W, Calls Tryd.prog 82 #[.int .u8 c.toNat] W fun e w' => e = .returned (.bool (isAlnum c)) ∧ w' = W := fun W => letter_calls c W
  have hix : ∀ W, Calls Tryd.prog 83 #[.string ⟨#[33, 35, 36, 37, 38, 39, 42, 43, 45, 47, 61, 63, 94, 95, 123, 124, 125, 126, 96]⟩, .int .u8 c.toNat] W fun e w' => e = .returned (.int .i64 (Lib.indexByte signs c)) ∧ w' = W := fun W => by
   have := Tryd.strings_IndexByte ⟨#[33, 35, 36, 37, 38, 39, 42, 43, 45, 47, 61, 63, 94, 95, 123, 124, 125, 126, 96]⟩ c.toNat W
   rw [show (c.toNat : Int).toNat.toUInt8 = c by simp] at this
   exact this
  cases hA : isAlnum c with
  | true =>
   rw [hA] at hal
   have HA := Lib.hid hA
   clear hA
   go_enter Tryd.func81, Tryd.ntmps81
   go_wp2_with (first | (go_at_call 82; refine (hal _).mono ?_; rintro e w' ⟨rfl, hw⟩; obtain rfl := hw.symm; clear hw))
   go_ret
   exact FIN.out _ _ 0 (by unfold atomOk atomByte; rw [E46.out, HA.out]; rfl) (by unfold atomStep; rw [E46.out])
  | false =>
   rw [hA] at hal
   have HA := Lib.hid hA
   clear hA
   have hge := Lib.indexByte_ge signs c
   generalize hq : Lib.indexByte signs c = q at hix hge
   have HQ := Lib.hid hq
   clear hq
   by_cases h0 : 0 ≤ q
   all_goals
    have h1 : decide (0 ≤ q) = decide (0 ≤ q) := rfl
    go_enter Tryd.func81, Tryd.ntmps81
    go_wp2_with (first | (go_at_call 82; refine (hal _).mono ?_; rintro e w' ⟨rfl, hw⟩; obtain rfl := hw.symm; clear hw) | (go_at_call 83; refine (hix _).mono ?_; rintro e w' ⟨rfl, hw⟩; obtain rfl := hw.symm; clear hw))
    go_ret
    exact FIN.out _ _ 0 (by unfold atomOk atomByte; rw [E46.out, HA.out, HQ.out]; simp [h0]) (by unfold atomStep; rw [E46.out])
set_option maxHeartbeats 1000000 in
theorem markStep_calls (n D : Nat) (hD : n ≤ D) (m : Bool) (c : UInt8) (W0 W : World) (h : Boxed W D 4 (.bool m) ∧ Below n W0 W) :
  Calls Tryd.prog 84 (#[.int .u8 c.toNat] ++ #[.pointer (some ⟨D, 0, none⟩)]) W fun e W' => e = .returned (.bool (markOk m c)) ∧ Boxed W' D 4 (.bool (markStep m c)) ∧ Below n W0 W' := by
 obtain ⟨hb, hB⟩ := h
 have hc := hb.cell
 have hf := hb.frozen
 have FIN : Aside0 (∀ (b d : Bool), b = markOk m c → d = markStep m c → (Ending.returned (.bool b) = .returned (.bool (markOk m c)) ∧ Boxed (W.setCell ⟨D, 0, none⟩ (.bool d)) D 4 (.bool (markStep m c)) ∧ Below n W0 (W.setCell ⟨D, 0, none⟩ (.bool d)))) := ⟨by
  intro b d hb2 hd2
  subst hb2 hd2
  exact ⟨rfl, hb.set _, hB.setCell (p := ⟨D, 0, none⟩) hD _⟩⟩
 clear hb hB
 have hbc : 0 ≤ (c.toNat : Int) ∧ (c.toNat : Int) ≤ 255 := by have := c.toNat_lt; omega
 have E92 := Lib.hid (show (c == 92) = ((c.toNat : Int) == 92) from u8_beq c 92)
 have E34 := Lib.hid (show (c == 34) = ((c.toNat : Int) == 34) from u8_beq c 34)
 cases m with
 | true =>
  go_enter Tryd.func84, Tryd.ntmps84
  go_wp2
  all_goals
   go_ret
   exact FIN.out _ _ (by unfold markOk; rw [E34.out, Bool.eq_iff_iff]; simp; try omega) (by unfold markStep; rw [E92.out, Bool.eq_iff_iff]; simp; try omega)
 | false =>
  go_enter Tryd.func84, Tryd.ntmps84
  go_wp2
  all_goals
   go_ret
   exact FIN.out _ _ (by unfold markOk; rw [E34.out, Bool.eq_iff_iff]; simp; try omega) (by unfold markStep; rw [E92.out, Bool.eq_iff_iff]; simp; try omega)
end Go.Proofs.YtljkopbalejcgaaDoor.P
end
section
set_option linter.unusedVariables false
set_option linter.unusedSimpArgs false
namespace Go.Proofs.YtljkopbalejcgaaDoor.P
open Go Go.RowKit Go.Lib Go.Proofs.YtljkopbalejcgaaDoorW.PrintWords
set_option maxHeartbeats 1000000 in
theorem atoms_calls (s : ByteArray) (w : World) (hs : s.size ≤ 140737488351232) :
  Calls Tryd.prog 68 #[.string s] w fun e w' => e = .returned (.bool (atomsOk s.data.toList)) ∧ Below w.heap.size w w' := by
 have he := each_any atomStep atomOk (fun m W => Boxed W w.heap.size 4 (.bool m) ∧ Below w.heap.size w W) 81 #[.pointer (some ⟨w.heap.size, 0, none⟩)] (enters_of Tryd.func81 (by kernel_rfl) rfl)
  (fun m c W h => atomStep_calls w.heap.size w.heap.size (Nat.le_refl _) m c w W h) s hs true (w.alloc (.cells #[.bool true] 4)) ⟨Boxed.new w _ _, (Below.refl _ _).alloc (Nat.le_refl _) _⟩
 unfold atomsOk
 generalize runS atomStep atomOk true s.data.toList = r at he ⊢
 obtain ⟨b, m⟩ := r
 cases b <;> cases m
 all_goals
  simp only at he
  go_enter Tryd.func68, Tryd.ntmps68
  go_wp2_with (go_at_call 80; refine he.mono ?_; rintro e w1 ⟨rfl, hb, hB⟩; have hc := hb.cell; have HB : Aside0 (Below w.heap.size w w1) := ⟨hB⟩; clear hb hB)
  go_ret
  exact ⟨rfl, HB.out⟩
set_option maxHeartbeats 1000000 in
theorem quoted_calls (s : ByteArray) (w : World) (hs : s.size ≤ 140737488351232) :
  Calls Tryd.prog 69 #[.string s] w fun e w' => e = .returned (.bool (quotedOk s.data.toList)) ∧ Below w.heap.size w w' := by
 have hl1 : (Lib.trimPrefix s.data.toList [34]).length ≤ s.size := by
  unfold Lib.trimPrefix; split
  ·rw [List.length_drop, len_eq]; omega
  ·rw [len_eq]; exact Nat.le_refl _
 have hl2 : (quotedIn s.data.toList).length ≤ s.size := by
  unfold quotedIn Lib.trimSuffix; split
  ·rw [List.length_take]; omega
  ·exact hl1
 have he := each_any markStep markOk (fun m W => Boxed W w.heap.size 4 (.bool m) ∧ Below w.heap.size w W) 84 #[.pointer (some ⟨w.heap.size, 0, none⟩)] (enters_of Tryd.func84 (by kernel_rfl) rfl)
  (fun m c W h => markStep_calls w.heap.size w.heap.size (Nat.le_refl _) m c w W h) ⟨(quotedIn s.data.toList).toArray⟩ (by show (quotedIn s.data.toList).toArray.size ≤ _; rw [List.size_toArray]; omega) false (w.alloc (.cells #[.bool false] 4)) ⟨Boxed.new w _ _, (Below.refl _ _).alloc (Nat.le_refl _) _⟩
 have h1 : ∀ W, Calls Tryd.prog 43 #[.string s, .string ⟨#[34]⟩] W fun e w' => e = .returned (.tuple #[.string ⟨(Lib.trimPrefix s.data.toList [34]).toArray⟩, .bool (Lib.hasPrefix s.data.toList [34])]) ∧ w' = W := fun W => Tryd.strings_CutPrefix s ⟨#[34]⟩ W
 have h2 : ∀ W, Calls Tryd.prog 53 #[.string ⟨(Lib.trimPrefix s.data.toList [34]).toArray⟩, .string ⟨#[34]⟩] W fun e w' => e = .returned (.tuple #[.string ⟨(quotedIn s.data.toList).toArray⟩, .bool (Lib.hasSuffix (Lib.trimPrefix s.data.toList [34]) [34])]) ∧ w' = W := fun W =>
  Tryd.strings_CutSuffix ⟨(Lib.trimPrefix s.data.toList [34]).toArray⟩ ⟨#[34]⟩ W (by show (Lib.trimPrefix s.data.toList [34]).toArray.size ≤ _; rw [List.size_toArray]; omega)
 unfold quotedOk
 rw [show (⟨(quotedIn s.data.toList).toArray⟩ : ByteArray).data.toList = quotedIn s.data.toList from rfl] at he
 generalize runS markStep markOk false (quotedIn s.data.toList) = r at he ⊢
 obtain ⟨b, m⟩ := r
 simp only at he ⊢
 generalize Lib.hasPrefix s.data.toList [34] = p1 at h1 ⊢
 generalize Lib.hasSuffix (Lib.trimPrefix s.data.toList [34]) [34] = p2 at h2 ⊢
 generalize quotedIn s.data.toList = q at h2 he
 generalize Lib.trimPrefix s.data.toList [34] = q1 at h1 h2
 clear hl1 hl2
 cases p1 <;> cases p2 <;> cases b <;> cases m
 all_goals
  go_enter Tryd.func69, Tryd.ntmps69
  go_wp2_with (first | (go_at_call 43; refine (h1 _).mono ?_; rintro e w1 ⟨rfl, hw⟩; obtain rfl := hw.symm; clear hw) | (go_at_call 53; refine (h2 _).mono ?_; rintro e w1 ⟨rfl, hw⟩; obtain rfl := hw.symm; clear hw) | (go_at_call 80; refine he.mono ?_; rintro e w1 ⟨rfl, hb, hB⟩; have hc := hb.cell; have HB : Aside0 (Below w.heap.size w w1) := ⟨hB⟩; clear hb hB))
  go_ret
  exact ⟨rfl, HB.out⟩
set_option maxHeartbeats 400000 in
theorem kinds_calls (w : World) : Calls Tryd.prog 60 #[] w fun e w' => e = .returned (.agg #[.func (.func 68) #[] #[], .func (.func 69) #[] #[]]) ∧ w' = w.alloc (.cells #[.func (.func 68) #[] #[], .func (.func 69) #[] #[]] 90) := by
 go_enter Tryd.func60, Tryd.ntmps60
 go_wp2
 exact bodyPost_ret (v := .agg #[.func (.func 68) #[] #[], .func (.func 69) #[] #[]]) (by simp [results, Tryd.results60, go_sem]) rfl ⟨rfl, rfl⟩
end Go.Proofs.YtljkopbalejcgaaDoor.P
end
section
set_option linter.unusedVariables false
set_option linter.unusedSimpArgs false
namespace Go.Proofs.YtljkopbalejcgaaDoor.P
open Go Go.RowKit Go.Lib Go.Proofs.YtljkopbalejcgaaDoorW.PrintWords
def firstIx (p : Nat → Bool) (n : Nat) : Int := match (List.range n).find? p with
 | some j => j
 | none => -1
theorem firstIx_hit (p : Nat → Bool) (n k : Nat) (hk : k < n) (hp : p k = true) (hf : ∀ j, j < k → p j = false) : firstIx p n = k := by
 have : (List.range n).find? p = some k := by
  rw [List.find?_range_eq_some]
  exact ⟨hp, List.mem_range.2 hk, fun j hj => by simp [hf j hj]⟩
 unfold firstIx; rw [this]
theorem firstIx_miss (p : Nat → Bool) (n : Nat) (hf : ∀ j, j < n → p j = false) : firstIx p n = -1 := by
 have : (List.range n).find? p = none := by
  rw [List.find?_eq_none]
  intro x hx
  rw [hf x (List.mem_range.1 hx)]; exact Bool.false_ne_true
 unfold firstIx; rw [this]
theorem firstIx_any (p : Nat → Bool) (n : Nat) : (List.range n).any p = decide (0 ≤ firstIx p n) := by
 unfold firstIx
 cases h : (List.range n).find? p with
 | none =>
  rw [List.find?_eq_none] at h
  simp
  intro x hx
  have := h x (List.mem_range.2 hx)
  simpa using this
 | some j =>
  have h1 := List.find?_some h
  have h2 := List.mem_of_find?_eq_some h
  simp
  exact ⟨j, List.mem_range.1 h2, h1⟩
set_option maxHeartbeats 1000000 in
theorem idx_byte (g : Nat) (lb : Array Value) (eg : ∀ args w, (callFunc g args).run Tryd.prog w = .ok (.enter g args) w)
  (n b c : Nat) (F : Nat → Value) (p : Nat → Bool) (w : World) (hn : n ≤ 140737488351232) (hb : b < w.heap.size)
  (hc : ∀ j, j < n → w.cell? ⟨b, j, none⟩ = some (F j))
  (hcl : ∀ j, j < n → ∀ W, Below w.heap.size w W → Calls Tryd.prog g (#[F j] ++ lb) W fun e W' => e = .returned (.bool (p j)) ∧ Below w.heap.size w W') :
  Calls Tryd.prog 39 #[.slice (some ⟨b, 0, none⟩) n c, .func (.func g) #[] lb] w fun e w' => e = .returned (.int .i64 (firstIx p n)) ∧ Below w.heap.size w w' := by
 have HC : Aside0 (∀ j, j < n → ∀ W, Below w.heap.size w W → W.cell? ⟨b, j, none⟩ = some (F j)) := ⟨fun j hj W hW => (hW.cell (p := ⟨b, j, none⟩) hb).trans (hc j hj)⟩
 have HCL := Aside0.mk hcl
 clear hc hcl
 go_enter Tryd.func39, Tryd.ntmps39
 go_wp2
 go_loopg [8] n (fun gk i wr => ∃ k : Nat, k ≤ n ∧ n - k ≤ gk ∧ i = .int .i64 k ∧ Aside0 (Below w.heap.size w wr) ∧ Aside0 (∀ j, j < k → p j = false))
 case atStart => exact ⟨0, by omega, by omega, rfl, ⟨Below.refl _ _⟩, ⟨fun j h => absurd h (Nat.not_lt_zero _)⟩⟩
 case round =>
  obtain ⟨k, hk, hg, rfl, HB, HF⟩ := hrel
  by_cases hlt : k < n
  ·have hltz : (k : Int) < (n : Int) := by omega
   have hcall := HCL.out k hlt wr HB.out
   have hcell := HC.out k hlt wr HB.out
   generalize F k = v at hcall hcell
   cases hp : p k with
   | true =>
    rw [hp] at hcall
    have HP := Lib.hid hp
    clear hp
    go_wp2_with (go_at_fn g; refine hcall.mono ?_; rintro e w' ⟨rfl, hb'⟩; have HB2 := Aside0.mk hb'; clear hb')
    go_ret
    exact ⟨by rw [firstIx_hit p n k hlt HP.out HF.out]; rfl, HB2.out⟩
   | false =>
    rw [hp] at hcall
    have HP := Lib.hid hp
    clear hp
    go_wp2_with (go_at_fn g; refine hcall.mono ?_; rintro e w' ⟨rfl, hb'⟩; have HB2 := Aside0.mk hb'; clear hb')
    go_roundg (n - (k + 1))
    case measure => omega
    case rel => exact ⟨k + 1, by omega, by omega, by go_num, HB2, ⟨fun j hj => by
     by_cases e : j = k
     ·subst e; exact HP.out
     ·exact HF.out j (by omega)⟩⟩
  ·have hltz : ¬ (k : Int) < (n : Int) := by omega
   have e : k = n := by omega
   subst e
   go_wp2
   go_ret
   exact ⟨by rw [firstIx_miss p k HF.out]; rfl, HB.out⟩
set_option maxHeartbeats 1000000 in
theorem has_byte (g : Nat) (lb : Array Value) (eg : ∀ args w, (callFunc g args).run Tryd.prog w = .ok (.enter g args) w)
  (n b c : Nat) (F : Nat → Value) (p : Nat → Bool) (w : World) (hn : n ≤ 140737488351232) (hb : b < w.heap.size)
  (hc : ∀ j, j < n → w.cell? ⟨b, j, none⟩ = some (F j))
  (hcl : ∀ j, j < n → ∀ W, Below w.heap.size w W → Calls Tryd.prog g (#[F j] ++ lb) W fun e W' => e = .returned (.bool (p j)) ∧ Below w.heap.size w W') :
  Calls Tryd.prog 24 #[.slice (some ⟨b, 0, none⟩) n c, .func (.func g) #[] lb] w fun e w' => e = .returned (.bool ((List.range n).any p)) ∧ Below w.heap.size w w' := by
 have hix := idx_byte g lb eg n b c F p w hn hb hc hcl
 have HE := Lib.hid (firstIx_any p n)
 generalize firstIx p n = q at hix HE
 clear hc hcl
 by_cases h0 : 0 ≤ q
 all_goals
  go_enter Tryd.func24, Tryd.ntmps24
  go_wp2_with (go_at_call 39; refine hix.mono ?_; rintro e w' ⟨rfl, hb'⟩; have HB2 := Aside0.mk hb'; clear hb')
  go_ret
  exact ⟨congrArg (fun b => Ending.returned (.bool b)) (by first | exact HE.out.symm | exact (HE.out.trans (decide_eq_true h0)).symm), HB2.out⟩
set_option maxHeartbeats 1000000 in
theorem idx_func (g : Nat) (lb : Array Value) (eg : ∀ args w, (callFunc g args).run Tryd.prog w = .ok (.enter g args) w)
  (n b c : Nat) (F : Nat → Value) (p : Nat → Bool) (w : World) (hn : n ≤ 140737488351232) (hb : b < w.heap.size)
  (hc : ∀ j, j < n → w.cell? ⟨b, j, none⟩ = some (F j))
  (hcl : ∀ j, j < n → ∀ W, Below w.heap.size w W → Calls Tryd.prog g (#[F j] ++ lb) W fun e W' => e = .returned (.bool (p j)) ∧ Below w.heap.size w W') :
  Calls Tryd.prog 70 #[.slice (some ⟨b, 0, none⟩) n c, .func (.func g) #[] lb] w fun e w' => e = .returned (.int .i64 (firstIx p n)) ∧ Below w.heap.size w w' := by
 have HC : Aside0 (∀ j, j < n → ∀ W, Below w.heap.size w W → W.cell? ⟨b, j, none⟩ = some (F j)) := ⟨fun j hj W hW => (hW.cell (p := ⟨b, j, none⟩) hb).trans (hc j hj)⟩
 have HCL := Aside0.mk hcl
 clear hc hcl
 go_enter Tryd.func70, Tryd.ntmps70
 go_wp2
 go_loopg [8] n (fun gk i wr => ∃ k : Nat, k ≤ n ∧ n - k ≤ gk ∧ i = .int .i64 k ∧ Aside0 (Below w.heap.size w wr) ∧ Aside0 (∀ j, j < k → p j = false))
 case atStart => exact ⟨0, by omega, by omega, rfl, ⟨Below.refl _ _⟩, ⟨fun j h => absurd h (Nat.not_lt_zero _)⟩⟩
 case round =>
  obtain ⟨k, hk, hg, rfl, HB, HF⟩ := hrel
  by_cases hlt : k < n
  ·have hltz : (k : Int) < (n : Int) := by omega
   have hcall := HCL.out k hlt wr HB.out
   have hcell := HC.out k hlt wr HB.out
   generalize F k = v at hcall hcell
   cases hp : p k with
   | true =>
    rw [hp] at hcall
    have HP := Lib.hid hp
    clear hp
    go_wp2_with (go_at_fn g; refine hcall.mono ?_; rintro e w' ⟨rfl, hb'⟩; have HB2 := Aside0.mk hb'; clear hb')
    go_ret
    exact ⟨by rw [firstIx_hit p n k hlt HP.out HF.out]; rfl, HB2.out⟩
   | false =>
    rw [hp] at hcall
    have HP := Lib.hid hp
    clear hp
    go_wp2_with (go_at_fn g; refine hcall.mono ?_; rintro e w' ⟨rfl, hb'⟩; have HB2 := Aside0.mk hb'; clear hb')
    go_roundg (n - (k + 1))
    case measure => omega
    case rel => exact ⟨k + 1, by omega, by omega, by go_num, HB2, ⟨fun j hj => by
     by_cases e : j = k
     ·subst e; exact HP.out
     ·exact HF.out j (by omega)⟩⟩
  ·have hltz : ¬ (k : Int) < (n : Int) := by omega
   have e : k = n := by omega
   subst e
   go_wp2
   go_ret
   exact ⟨by rw [firstIx_miss p k HF.out]; rfl, HB.out⟩
set_option maxHeartbeats 1000000 in
theorem has_func (g : Nat) (lb : Array Value) (eg : ∀ args w, (callFunc g args).run Tryd.prog w = .ok (.enter g args) w)
  (n b c : Nat) (F : Nat → Value) (p : Nat → Bool) (w : World) (hn : n ≤ 140737488351232) (hb : b < w.heap.size)
  (hc : ∀ j, j < n → w.cell? ⟨b, j, none⟩ = some (F j))
  (hcl : ∀ j, j < n → ∀ W, Below w.heap.size w W → Calls Tryd.prog g (#[F j] ++ lb) W fun e W' => e = .returned (.bool (p j)) ∧ Below w.heap.size w W') :
  Calls Tryd.prog 61 #[.slice (some ⟨b, 0, none⟩) n c, .func (.func g) #[] lb] w fun e w' => e = .returned (.bool ((List.range n).any p)) ∧ Below w.heap.size w w' := by
 have hix := idx_func g lb eg n b c F p w hn hb hc hcl
 have HE := Lib.hid (firstIx_any p n)
 generalize firstIx p n = q at hix HE
 clear hc hcl
 by_cases h0 : 0 ≤ q
 all_goals
  go_enter Tryd.func61, Tryd.ntmps61
  go_wp2_with (go_at_call 70; refine hix.mono ?_; rintro e w' ⟨rfl, hb'⟩; have HB2 := Aside0.mk hb'; clear hb')
  go_ret
  exact ⟨congrArg (fun b => Ending.returned (.bool b)) (by first | exact HE.out.symm | exact (HE.out.trans (decide_eq_true h0)).symm), HB2.out⟩
set_option maxHeartbeats 1000000 in
theorem idx_param (g : Nat) (lb : Array Value) (eg : ∀ args w, (callFunc g args).run Tryd.prog w = .ok (.enter g args) w)
  (n c : Nat) (ad : Addr) (F : Nat → Value) (p : Nat → Bool) (w : World) (hn : n ≤ 140737488351232) (hb : 0 < n → ad.block < w.heap.size)
  (hc : ∀ j, j < n → ∃ u v, F j = .agg #[u, v] ∧ w.cell? (ad.add (j * 2)) = some u ∧ w.cell? ⟨(ad.add (j * 2)).block, (ad.add (j * 2)).off + 1, none⟩ = some v)
  (hcl : ∀ j, j < n → ∀ W, Below w.heap.size w W → Calls Tryd.prog g (#[F j] ++ lb) W fun e W' => e = .returned (.bool (p j)) ∧ Below w.heap.size w W') :
  Calls Tryd.prog 58 #[.slice (some ad) n c, .func (.func g) #[] lb] w fun e w' => e = .returned (.int .i64 (firstIx p n)) ∧ Below w.heap.size w w' := by
 have HC : Aside0 (∀ j, j < n → ∀ W, Below w.heap.size w W → ∃ u v, F j = .agg #[u, v] ∧ W.cell? (ad.add (j * 2)) = some u ∧ W.cell? ⟨(ad.add (j * 2)).block, (ad.add (j * 2)).off + 1, none⟩ = some v) := ⟨fun j hj W hW => by obtain ⟨u, v, e, h1, h2⟩ := hc j hj; exact ⟨u, v, e, (hW.cell (World.block_lt_of_cell? _ _ h1)).trans h1, (hW.cell (World.block_lt_of_cell? _ _ h2)).trans h2⟩⟩
 have HCL := Aside0.mk hcl
 clear hc hcl
 go_enter Tryd.func58, Tryd.ntmps58
 go_wp2
 go_loopg [8] n (fun gk i wr => ∃ k : Nat, k ≤ n ∧ n - k ≤ gk ∧ i = .int .i64 k ∧ Aside0 (Below w.heap.size w wr) ∧ Aside0 (∀ j, j < k → p j = false))
 case atStart => exact ⟨0, by omega, by omega, rfl, ⟨Below.refl _ _⟩, ⟨fun j h => absurd h (Nat.not_lt_zero _)⟩⟩
 case round =>
  obtain ⟨k, hk, hg, rfl, HB, HF⟩ := hrel
  by_cases hlt : k < n
  ·have hltz : (k : Int) < (n : Int) := by omega
   have hcall := HCL.out k hlt wr HB.out
   have hcell := HC.out k hlt wr HB.out
   obtain ⟨u, v, hF, hcell0, hcell1⟩ := hcell
   rw [hF] at hcall
   clear hF
   cases hp : p k with
   | true =>
    rw [hp] at hcall
    have HP := Lib.hid hp
    clear hp
    go_wp2_with (go_at_fn g; refine hcall.mono ?_; rintro e w' ⟨rfl, hb'⟩; have HB2 := Aside0.mk hb'; clear hb')
    go_ret
    exact ⟨by rw [firstIx_hit p n k hlt HP.out HF.out]; rfl, HB2.out⟩
   | false =>
    rw [hp] at hcall
    have HP := Lib.hid hp
    clear hp
    go_wp2_with (go_at_fn g; refine hcall.mono ?_; rintro e w' ⟨rfl, hb'⟩; have HB2 := Aside0.mk hb'; clear hb')
    go_roundg (n - (k + 1))
    case measure => omega
    case rel => exact ⟨k + 1, by omega, by omega, by go_num, HB2, ⟨fun j hj => by
     by_cases e : j = k
     ·subst e; exact HP.out
     ·exact HF.out j (by omega)⟩⟩
  ·have hltz : ¬ (k : Int) < (n : Int) := by omega
   have e : k = n := by omega
   subst e
   go_wp2
   go_ret
   exact ⟨by rw [firstIx_miss p k HF.out]; rfl, HB.out⟩
set_option maxHeartbeats 1000000 in
theorem has_param (g : Nat) (lb : Array Value) (eg : ∀ args w, (callFunc g args).run Tryd.prog w = .ok (.enter g args) w)
  (n c : Nat) (ad : Addr) (F : Nat → Value) (p : Nat → Bool) (w : World) (hn : n ≤ 140737488351232) (hb : 0 < n → ad.block < w.heap.size)
  (hc : ∀ j, j < n → ∃ u v, F j = .agg #[u, v] ∧ w.cell? (ad.add (j * 2)) = some u ∧ w.cell? ⟨(ad.add (j * 2)).block, (ad.add (j * 2)).off + 1, none⟩ = some v)
  (hcl : ∀ j, j < n → ∀ W, Below w.heap.size w W → Calls Tryd.prog g (#[F j] ++ lb) W fun e W' => e = .returned (.bool (p j)) ∧ Below w.heap.size w W') :
  Calls Tryd.prog 49 #[.slice (some ad) n c, .func (.func g) #[] lb] w fun e w' => e = .returned (.bool ((List.range n).any p)) ∧ Below w.heap.size w w' := by
 have hix := idx_param g lb eg n c ad F p w hn hb hc hcl
 have HE := Lib.hid (firstIx_any p n)
 generalize firstIx p n = q at hix HE
 clear hc hcl
 by_cases h0 : 0 ≤ q
 all_goals
  go_enter Tryd.func49, Tryd.ntmps49
  go_wp2_with (go_at_call 58; refine hix.mono ?_; rintro e w' ⟨rfl, hb'⟩; have HB2 := Aside0.mk hb'; clear hb')
  go_ret
  exact ⟨congrArg (fun b => Ending.returned (.bool b)) (by first | exact HE.out.symm | exact (HE.out.trans (decide_eq_true h0)).symm), HB2.out⟩
end Go.Proofs.YtljkopbalejcgaaDoor.P
end
section
namespace Go.Proofs.YtljkopbalejcgaaDoor.P
open Go.RowKit Go.Proofs.YtljkopbalejcgaaDoorW.PrintWords Go.Proofs.YtljkopbalejcgaaDoorW.PrintLast Go.Proofs.YtljkopbalejcgaaDoorW.PrintMore
attribute [local go_sem] max2_int min2_int max_two min_two max_three min_three max_four min_four
set_option linter.unusedVariables false
set_option linter.unusedSimpArgs false
open Go Go.Lib
set_option maxHeartbeats 1000000 in
theorem parse1_calls (B0 B1 : Nat) (s : ByteArray) (at_ : Nat) (hat : at_ ≤ s.size) (hs : s.size ≤ 140737488351232) (f : Nat) (ef : ∀ args w, (callFunc f args).run Tryd.prog w = .ok (.enter f args) w)
  (r : Bool) (hf : ∀ W, Calls Tryd.prog f #[.string (s.extract 0 at_)] W fun e w' => e = .returned (.bool r) ∧ Below W.heap.size W w')
  (W : World) (h0 : W.cell? ⟨B0, 0, none⟩ = some (.string s)) (h1 : W.cell? ⟨B1, 0, none⟩ = some (.int .i64 at_)) :
  Calls Tryd.prog 62 (#[.func (.func f) #[] #[]] ++ #[.pointer (some ⟨B0, 0, none⟩), .pointer (some ⟨B1, 0, none⟩)]) W fun e w' => e = .returned (.bool r) ∧ Below W.heap.size W w' := by
 have hz : (0 : Int) ≤ (at_ : Int) ∧ (at_ : Int) ≤ (s.size : Int) := by omega
 go_enter Tryd.func62, Tryd.ntmps62
 go_wp2_with (go_at_fn f; refine (hf _).mono ?_; rintro e w' ⟨rfl, hb⟩)
 go_ret
 exact ⟨rfl, hb⟩
theorem lastAt_eq (s : ByteArray) : Lib.lastIndexByte s 64 = lastAt s.data.toList := rfl
theorem lastAt_lt (s : ByteArray) (h : 0 ≤ lastAt s.data.toList) : lastAt s.data.toList < (s.size : Int) := by
 rcases Lib.lastIdx_spec s 64 s.size with ⟨h1, _⟩ | ⟨i, hi, h1, _⟩
 ·have : lastAt s.data.toList = -1 := h1
  omega
 ·have : lastAt s.data.toList = i := h1
  omega
set_option maxHeartbeats 2000000 in
theorem parse_no1 (s : ByteArray) (w : World) (hs : s.size ≤ 140737488351232) (h : lastAt s.data.toList < 1 ∨ 64 < lastAt s.data.toList ∨ Lib.hasSuffix s.data.toList [46] = true) :
  Calls Tryd.prog 51 #[.string s] w fun e w' => e = .returned (.tuple #[.string ⟨#[]⟩, .string ⟨#[]⟩, .int .i64 4]) ∧ Below w.heap.size w w' := by
 have hla : ∀ W, Calls Tryd.prog 59 #[.string s, .int .u8 64] W fun e w' => e = .returned (.int .i64 (lastAt s.data.toList)) ∧ w' = W := fun W => Tryd.strings_LastIndexByte s 64 (by omega) W
 have hsf : ∀ W, Calls Tryd.prog 32 #[.string s, .string ⟨#[46]⟩] W fun e w' => e = .returned (.bool (Lib.hasSuffix s.data.toList [46])) ∧ w' = W := fun W => Tryd.strings_HasSuffix s ⟨#[46]⟩ W (by omega)
 generalize lastAt s.data.toList = q at hla h
 generalize Lib.hasSuffix s.data.toList [46] = sf at hsf h
 by_cases h0 : q < 1
 ·clear h
  go_enter Tryd.func51, Tryd.ntmps51
  go_wp2_with (first | (go_at_call 59; refine (hla _).mono ?_; rintro e w' ⟨rfl, hw⟩; obtain rfl := hw.symm; clear hw) | (go_at_call 60; refine (kinds_calls _).mono ?_; rintro e w' ⟨rfl, hw⟩; obtain rfl := hw.symm; clear hw) | (go_at_call 32; refine (hsf _).mono ?_; rintro e w' ⟨rfl, hw⟩; obtain rfl := hw.symm; clear hw))
  go_ret3
  exact ⟨rfl, by repeat (first | exact Below.refl _ _ | apply below_alloc)⟩
 by_cases h1 : 64 < q
 ·clear h
  go_enter Tryd.func51, Tryd.ntmps51
  go_wp2_with (first | (go_at_call 59; refine (hla _).mono ?_; rintro e w' ⟨rfl, hw⟩; obtain rfl := hw.symm; clear hw) | (go_at_call 60; refine (kinds_calls _).mono ?_; rintro e w' ⟨rfl, hw⟩; obtain rfl := hw.symm; clear hw) | (go_at_call 32; refine (hsf _).mono ?_; rintro e w' ⟨rfl, hw⟩; obtain rfl := hw.symm; clear hw))
  go_ret3
  exact ⟨rfl, by repeat (first | exact Below.refl _ _ | apply below_alloc)⟩
 ·have h2 : sf = true := (h.resolve_left h0).resolve_left h1
  subst h2
  clear h
  go_enter Tryd.func51, Tryd.ntmps51
  go_wp2_with (first | (go_at_call 59; refine (hla _).mono ?_; rintro e w' ⟨rfl, hw⟩; obtain rfl := hw.symm; clear hw) | (go_at_call 60; refine (kinds_calls _).mono ?_; rintro e w' ⟨rfl, hw⟩; obtain rfl := hw.symm; clear hw) | (go_at_call 32; refine (hsf _).mono ?_; rintro e w' ⟨rfl, hw⟩; obtain rfl := hw.symm; clear hw))
  go_ret3
  exact ⟨rfl, by repeat (first | exact Below.refl _ _ | apply below_alloc)⟩
set_option maxHeartbeats 2000000 in
theorem parse_rest (s : ByteArray) (w : World) (hs : s.size ≤ 140737488351232) (k : Nat) (hla : ∀ W, Calls Tryd.prog 59 #[.string s, .int .u8 64] W fun e w' => e = .returned (.int .i64 k) ∧ w' = W) (hk0 : 1 ≤ k) (hk : k ≤ 64) (hk2 : k < s.size)
  (hsf : ∀ W, Calls Tryd.prog 32 #[.string s, .string ⟨#[46]⟩] W fun e w' => e = .returned (.bool false) ∧ w' = W)
  (p0 p1 : Bool) (h0 : ∀ W, Calls Tryd.prog 68 #[.string (s.extract 0 k)] W fun e w' => e = .returned (.bool p0) ∧ Below W.heap.size W w')
  (h1 : ∀ W, Calls Tryd.prog 69 #[.string (s.extract 0 k)] W fun e w' => e = .returned (.bool p1) ∧ Below W.heap.size W w')
  (d : ByteArray) (ee : Int) (hfo : ∀ W, Calls Tryd.prog 63 #[.string (s.extract (k + 1) s.size)] W fun e w' => e = .returned (.tuple #[.string d, .int .i64 ee]) ∧ Below W.heap.size W w') :
  Calls Tryd.prog 51 #[.string s] w fun e w' => e = .returned (if p0 || p1 then (if ee = 0 then .tuple #[.string (s.extract 0 k), .string d, .int .i64 0] else .tuple #[.string ⟨#[]⟩, .string ⟨#[]⟩, .int .i64 4]) else .tuple #[.string ⟨#[]⟩, .string ⟨#[]⟩, .int .i64 4]) ∧ Below w.heap.size w w' := by
 have hcont : Calls Tryd.prog 61 #[.slice (some ⟨w.heap.size + 1 + 1 + 1, 0, none⟩) 2 2, .func (.func 62) #[] #[.pointer (some ⟨w.heap.size, 0, none⟩), .pointer (some ⟨w.heap.size + 1 + 1, 0, none⟩)]]
   ((((w.alloc (.cells #[.string s] 9)).alloc (.cells #[.func (.func 68) #[] #[], .func (.func 69) #[] #[]] 90)).alloc (.cells #[.int .i64 k] 3)).alloc (.cells #[.func (.func 68) #[] #[], .func (.func 69) #[] #[]] 90)) fun e w' => e = .returned (.bool (p0 || p1)) ∧ w'.cell? ⟨w.heap.size, 0, none⟩ = some (.string s) ∧ w'.cell? ⟨w.heap.size + 1 + 1, 0, none⟩ = some (.int .i64 k) ∧ Below w.heap.size w w' := by
  have g0 : ((((w.alloc (.cells #[.string s] 9)).alloc (.cells #[.func (.func 68) #[] #[], .func (.func 69) #[] #[]] 90)).alloc (.cells #[.int .i64 k] 3)).alloc (.cells #[.func (.func 68) #[] #[], .func (.func 69) #[] #[]] 90)).cell? ⟨w.heap.size, 0, none⟩ = some (.string s) := by go_simp
  have g1 : ((((w.alloc (.cells #[.string s] 9)).alloc (.cells #[.func (.func 68) #[] #[], .func (.func 69) #[] #[]] 90)).alloc (.cells #[.int .i64 k] 3)).alloc (.cells #[.func (.func 68) #[] #[], .func (.func 69) #[] #[]] 90)).cell? ⟨w.heap.size + 1 + 1, 0, none⟩ = some (.int .i64 k) := by go_simp
  have g2 : ((((w.alloc (.cells #[.string s] 9)).alloc (.cells #[.func (.func 68) #[] #[], .func (.func 69) #[] #[]] 90)).alloc (.cells #[.int .i64 k] 3)).alloc (.cells #[.func (.func 68) #[] #[], .func (.func 69) #[] #[]] 90)).cell? ⟨w.heap.size + 1 + 1 + 1, 0, none⟩ = some (.func (.func 68) #[] #[]) := by go_simp
  have g3 : ((((w.alloc (.cells #[.string s] 9)).alloc (.cells #[.func (.func 68) #[] #[], .func (.func 69) #[] #[]] 90)).alloc (.cells #[.int .i64 k] 3)).alloc (.cells #[.func (.func 68) #[] #[], .func (.func 69) #[] #[]] 90)).cell? ⟨w.heap.size + 1 + 1 + 1, 1, none⟩ = some (.func (.func 69) #[] #[]) := by go_simp
  have gb : Below w.heap.size w ((((w.alloc (.cells #[.string s] 9)).alloc (.cells #[.func (.func 68) #[] #[], .func (.func 69) #[] #[]] 90)).alloc (.cells #[.int .i64 k] 3)).alloc (.cells #[.func (.func 68) #[] #[], .func (.func 69) #[] #[]] 90)) := by repeat (first | exact Below.refl _ _ | apply below_alloc)
  have gs : w.heap.size + 1 + 1 + 1 < ((((w.alloc (.cells #[.string s] 9)).alloc (.cells #[.func (.func 68) #[] #[], .func (.func 69) #[] #[]] 90)).alloc (.cells #[.int .i64 k] 3)).alloc (.cells #[.func (.func 68) #[] #[], .func (.func 69) #[] #[]] 90)).heap.size := by simp
  generalize ((((w.alloc (.cells #[.string s] 9)).alloc (.cells #[.func (.func 68) #[] #[], .func (.func 69) #[] #[]] 90)).alloc (.cells #[.int .i64 k] 3)).alloc (.cells #[.func (.func 68) #[] #[], .func (.func 69) #[] #[]] 90)) = W4 at g0 g1 g2 g3 gb gs ⊢
  refine (has_func 62 _ (enters_of Tryd.func62 (by kernel_rfl) rfl) 2 (w.heap.size + 1 + 1 + 1) 2 (fun j => if j = 0 then .func (.func 68) #[] #[] else .func (.func 69) #[] #[]) (fun j => if j = 0 then p0 else p1) W4 (by omega) gs ?_ ?_).mono ?_
  ·intro j hj
   by_cases e : j = 0
   ·subst e; exact g2
   ·have e1 : j = 1 := by omega
    subst e1; exact g3
  ·intro j hj W hW
   have c0 := (hW.cell (World.block_lt_of_cell? _ _ g0)).trans g0
   have c1 := (hW.cell (World.block_lt_of_cell? _ _ g1)).trans g1
   by_cases e : j = 0
   ·subst e
    exact (parse1_calls w.heap.size (w.heap.size + 1 + 1) s k (by omega) hs 68 (enters_of Tryd.func68 (by kernel_rfl) rfl) p0 h0 W c0 c1).mono fun e W' ⟨he, hb⟩ => ⟨he, below_then hW hW.size hb⟩
   ·have e1 : j = 1 := by omega
    subst e1
    exact (parse1_calls w.heap.size (w.heap.size + 1 + 1) s k (by omega) hs 69 (enters_of Tryd.func69 (by kernel_rfl) rfl) p1 h1 W c0 c1).mono fun e W' ⟨he, hb⟩ => ⟨he, below_then hW hW.size hb⟩
  ·rintro e w' ⟨rfl, hb⟩
   exact ⟨by cases p0 <;> cases p1 <;> rfl, (hb.cell (World.block_lt_of_cell? _ _ g0)).trans g0, (hb.cell (World.block_lt_of_cell? _ _ g1)).trans g1, below_then gb gb.size hb⟩
 have hz : (0 : Int) ≤ (k : Int) + 1 ∧ (k : Int) + 1 ≤ (s.size : Int) ∧ ((k : Int) + 1).toNat = k + 1 := by omega
 generalize (p0 || p1) = p at hcont ⊢
 clear h0 h1
 cases p with
 | false =>
  go_enter Tryd.func51, Tryd.ntmps51
  go_wp2_with (first | (go_at_call 59; refine (hla _).mono ?_; rintro e w' ⟨rfl, hw⟩; obtain rfl := hw.symm; clear hw) | (go_at_call 60; refine (kinds_calls _).mono ?_; rintro e w' ⟨rfl, hw⟩; obtain rfl := hw.symm; clear hw) | (go_at_call 32; refine (hsf _).mono ?_; rintro e w' ⟨rfl, hw⟩; obtain rfl := hw.symm; clear hw) | (go_at_call 61; refine hcont.mono ?_; rintro e w2 ⟨rfl, c0, c1, hb2⟩; have HB2 := Aside0.mk hb2; clear hb2))
  go_ret3
  exact ⟨rfl, HB2.out⟩
 | true =>
  by_cases h4 : ee = 0
  ·subst h4
   go_enter Tryd.func51, Tryd.ntmps51
   go_wp2_with (first | (go_at_call 59; refine (hla _).mono ?_; rintro e w' ⟨rfl, hw⟩; obtain rfl := hw.symm; clear hw) | (go_at_call 60; refine (kinds_calls _).mono ?_; rintro e w' ⟨rfl, hw⟩; obtain rfl := hw.symm; clear hw) | (go_at_call 32; refine (hsf _).mono ?_; rintro e w' ⟨rfl, hw⟩; obtain rfl := hw.symm; clear hw) | (go_at_call 61; refine hcont.mono ?_; rintro e w2 ⟨rfl, c0, c1, hb2⟩; have HB2 := Aside0.mk hb2; clear hb2) | (go_at_call 63; refine (hfo _).mono ?_; rintro e w3 ⟨rfl, hb3⟩; have c2 := (hb3.cell (World.block_lt_of_cell? _ _ c0)).trans c0; have c3 := (hb3.cell (World.block_lt_of_cell? _ _ c1)).trans c1; have HB3 := Aside0.mk (below_then HB2.out HB2.out.size hb3); clear hb3))
   go_ret3
   exact ⟨rfl, HB3.out⟩
  ·have h4' : (ee == 0) = false := by simpa using h4
   have h4'' : (ee != 0) = true := by simpa using h4
   rw [if_neg h4]
   go_enter Tryd.func51, Tryd.ntmps51
   go_wp2_with (first | (go_at_call 59; refine (hla _).mono ?_; rintro e w' ⟨rfl, hw⟩; obtain rfl := hw.symm; clear hw) | (go_at_call 60; refine (kinds_calls _).mono ?_; rintro e w' ⟨rfl, hw⟩; obtain rfl := hw.symm; clear hw) | (go_at_call 32; refine (hsf _).mono ?_; rintro e w' ⟨rfl, hw⟩; obtain rfl := hw.symm; clear hw) | (go_at_call 61; refine hcont.mono ?_; rintro e w2 ⟨rfl, c0, c1, hb2⟩; have HB2 := Aside0.mk hb2; clear hb2) | (go_at_call 63; refine (hfo _).mono ?_; rintro e w3 ⟨rfl, hb3⟩; have c2 := (hb3.cell (World.block_lt_of_cell? _ _ c0)).trans c0; have c3 := (hb3.cell (World.block_lt_of_cell? _ _ c1)).trans c1; have HB3 := Aside0.mk (below_then HB2.out HB2.out.size hb3); clear hb3))
   go_ret3
   exact ⟨rfl, HB3.out⟩
def addr_Parse.f (a : ByteArray) : Option (ByteArray × ByteArray × Int) := if a.size ≤ 140737488351232 then some (match addrParse a.data.toList with
 | some (l, d) => (⟨l.toArray⟩, ⟨d.toArray⟩, 0)
 | none => (⟨#[]⟩, ⟨#[]⟩, 4)) else none
theorem addr_Parse.calls (a : ByteArray) (r1 : ByteArray) (r2 : ByteArray) (r3 : Int) (w : World) (h : addr_Parse.f a = some (r1, r2, r3)) :
  Calls Tryd.prog 51 #[.string a] w fun e w' => e = .returned (.tuple #[.string r1, .string r2, .int .i64 r3]) ∧ Below w.heap.size w w' := by
 unfold addr_Parse.f at h
 split at h
 ·rename_i hs
  obtain h := Option.some.inj h
  unfold addrParse at h
  by_cases hno : lastAt a.data.toList < 1 ∨ 64 < lastAt a.data.toList ∨ Lib.hasSuffix a.data.toList [46] = true
  ·rw [if_pos hno] at h
   simp only [Prod.mk.injEq] at h
   obtain ⟨rfl, rfl, rfl⟩ := h
   exact parse_no1 a w hs hno
  ·rw [if_neg hno] at h
   have hlt := lastAt_lt a (by omega)
   obtain ⟨k, hk⟩ : ∃ k : Nat, lastAt a.data.toList = k := ⟨(lastAt a.data.toList).toNat, by omega⟩
   rw [hk] at h hlt hno
   rw [show ((k : Int)).toNat = k by omega] at h
   have hsf : Lib.hasSuffix a.data.toList [46] = false := by
    cases hb : Lib.hasSuffix a.data.toList [46] with
    | true => exact absurd (.inr (.inr hb)) hno
    | false => rfl
   have hex : (a.extract 0 k).data.toList = a.data.toList.take k := by rw [Lib.extract_data]; simp
   have hle : (a.extract 0 k).size ≤ 140737488351232 := by rw [← len_eq, hex, List.length_take, len_eq]; omega
   have hex2 : (a.extract (k + 1) a.size).data.toList = a.data.toList.drop (k + 1) := Lib.extract_to_end a (k + 1)
   have hle2 : (a.extract (k + 1) a.size).size ≤ 140737488351232 := by rw [← len_eq, hex2, List.length_drop, len_eq]; omega
   have hf : ∀ W, Calls Tryd.prog 63 #[.string (a.extract (k + 1) a.size)] W fun e w' => e = .returned (.tuple #[.string (match foldName (a.data.toList.drop (k + 1)) with | some l => ⟨l.toArray⟩ | none => ⟨#[]⟩), .int .i64 (match foldName (a.data.toList.drop (k + 1)) with | some l => 0 | none => 4)]) ∧ Below W.heap.size W w' := fun W =>
    name_Fold.calls _ _ _ W (by unfold name_Fold.f; rw [if_pos hle2, hex2]; cases foldName (a.data.toList.drop (k + 1)) <;> rfl)
   have hp := parse_rest a w hs k (fun W => by have := Tryd.strings_LastIndexByte a 64 (by omega) W; rw [lastAt_eq, hk] at this; exact this) (by omega) (by omega) (by omega)
    (fun W => by have := Tryd.strings_HasSuffix a ⟨#[46]⟩ W (by omega); rw [show Lib.hasSuffix a.data.toList (⟨#[46]⟩ : ByteArray).data.toList = false from hsf] at this; exact this)
    (atomsOk (a.data.toList.take k)) (quotedOk (a.data.toList.take k)) (fun W => by rw [← hex]; exact atoms_calls _ W hle) (fun W => by rw [← hex]; exact quoted_calls _ W hle) _ _ hf
   rw [show (atomsOk (a.data.toList.take k) || quotedOk (a.data.toList.take k)) = localOk (a.data.toList.take k) from rfl] at hp
   cases hl : localOk (a.data.toList.take k) with
   | false =>
    rw [hl] at h hp
    simp only [if_true, Prod.mk.injEq] at h
    obtain ⟨rfl, rfl, rfl⟩ := h
    exact hp
   | true =>
    rw [hl] at h hp
    simp only [Bool.true_eq_false, if_false] at h
    cases hfo : foldName (a.data.toList.drop (k + 1)) with
    | none =>
     rw [hfo] at h hp
     simp only [Prod.mk.injEq] at h
     obtain ⟨rfl, rfl, rfl⟩ := h
     exact hp
    | some d =>
     rw [hfo] at h hp
     simp only [Prod.mk.injEq] at h
     obtain ⟨rfl, rfl, rfl⟩ := h
     rw [show a.extract 0 k = ⟨(a.data.toList.take k).toArray⟩ by rw [Lib.extract_eq]; simp] at hp
     exact hp
 ·simp at h
end Go.Proofs.YtljkopbalejcgaaDoor.P
end
section
namespace Go.Proofs.YtljkopbalejcgaaDoor.P
open Go.RowKit Go.Proofs.YtljkopbalejcgaaDoorW.PrintWords Go.Proofs.YtljkopbalejcgaaDoorW.PrintLast Go.Proofs.YtljkopbalejcgaaDoorW.PrintMore
attribute [local go_sem] max2_int min2_int max_two min_two max_three min_three max_four min_four
set_option linter.unusedVariables false
set_option linter.unusedSimpArgs false
def addr_May.f (a0 : ByteArray) : Option (Bool) := (addr_Parse.f a0).bind fun bt101 => (some (bt101.2.2 == 0))
set_option maxHeartbeats 8000000 in
set_option maxRecDepth 100000 in
theorem addr_May.calls (a0 : ByteArray) (r : Bool) (w : World) (h : addr_May.f a0 = some r) :
  Calls Tryd.prog 36 #[.string a0] w fun e w' => e = .returned (.bool r) ∧ Below w.heap.size w w' := by
 have HB := Aside0.mk (Below.refl w.heap.size w)
 have H : ((addr_Parse.f a0).bind fun bt101 => (some (bt101.2.2 == 0))) = some r := h
 clear h
 replace H := Option.bind_eq_some_iff.mp H
 obtain ⟨⟨t101, t102, t103⟩, A20, H⟩ := H
 replace H : (some (t103 == 0)) = some r := H
 have A2 := Aside0.mk A20
 clear A20
 obtain rfl := Option.some.inj H
 go_enter Tryd.func36, Tryd.ntmps36
 go_wp2_with (first | ((with_reducible refine gate_callee (f := 51) rfl ?_); refine goesL_ (some 8) rfl rfl Tryd.func51 (by kernel_rfl) rfl #[.string a0] rfl (by (try simp only [List.map_toArray, List.map_cons, List.map_nil]); first | done | rfl | (simp only [List.length_drop, List.length_take]; rfl)) ?_; (with_reducible refine (addr_Parse.calls a0 t101 t102 t103 _ A2.out).mono ?_); rintro e w3 ⟨rfl, hb⟩; refine ⟨_, rfl, ?_⟩; have n0_ := Aside0.mk (below_step (by repeat (first | (with_reducible first | exact HB.out | apply below_alloc | apply pw_below_drewN | apply below_drew1) | exact HB.out)) hb); clear HB; have HB := n0_; clear n0_; (try clear hb); (try clear hb2); (try clear hk); (try clear hi)))
 go_ret
 exact ⟨by first | rfl | (simp [errW_none, errW_some] <;> rfl) | (simp [*, errW_none, errW_some] <;> rfl), by repeat (first | (with_reducible first | exact HB.out | apply below_alloc | apply pw_below_drewN | apply below_drew1) | exact HB.out)⟩
end Go.Proofs.YtljkopbalejcgaaDoor.P
end
section
namespace Go.Proofs.YtljkopbalejcgaaDoor.P
open Go.RowKit Go.Proofs.YtljkopbalejcgaaDoorW.PrintWords Go.Proofs.YtljkopbalejcgaaDoorW.PrintLast Go.Proofs.YtljkopbalejcgaaDoorW.PrintMore
attribute [local go_sem] max2_int min2_int max_two min_two max_three min_three max_four min_four
set_option linter.unusedVariables false
set_option linter.unusedSimpArgs false
def addr_Path.f (a0 : ByteArray) : Option (ByteArray) := if a0.toList = ([] : List UInt8) then (if 1 + a0.size ≤ 9223372036854775807 then (if ((⟨#[60]⟩ : ByteArray) ++ a0).size + 1 ≤ 9223372036854775807 then (some (((⟨#[60]⟩ : ByteArray) ++ a0) ++ (⟨#[62]⟩ : ByteArray))) else (none)) else (none)) else ((addr_May.f a0).bind fun t104 => (if t104 = true then (if 1 + a0.size ≤ 9223372036854775807 then (if ((⟨#[60]⟩ : ByteArray) ++ a0).size + 1 ≤ 9223372036854775807 then (some (((⟨#[60]⟩ : ByteArray) ++ a0) ++ (⟨#[62]⟩ : ByteArray))) else (none)) else (none)) else (some (⟨#[]⟩ : ByteArray))))
set_option maxHeartbeats 8000000 in
set_option maxRecDepth 100000 in
theorem addr_Path.calls (a0 : ByteArray) (r : ByteArray) (w : World) (h : addr_Path.f a0 = some r) :
  Calls Tryd.prog 27 #[.string a0] w fun e w' => e = .returned (.string r) ∧ Below w.heap.size w w' := by
 have HB := Aside0.mk (Below.refl w.heap.size w)
 have H : (if a0.toList = ([] : List UInt8) then (if 1 + a0.size ≤ 9223372036854775807 then (if ((⟨#[60]⟩ : ByteArray) ++ a0).size + 1 ≤ 9223372036854775807 then (some (((⟨#[60]⟩ : ByteArray) ++ a0) ++ (⟨#[62]⟩ : ByteArray))) else (none)) else (none)) else ((addr_May.f a0).bind fun t104 => (if t104 = true then (if 1 + a0.size ≤ 9223372036854775807 then (if ((⟨#[60]⟩ : ByteArray) ++ a0).size + 1 ≤ 9223372036854775807 then (some (((⟨#[60]⟩ : ByteArray) ++ a0) ++ (⟨#[62]⟩ : ByteArray))) else (none)) else (none)) else (some (⟨#[]⟩ : ByteArray))))) = some r := h
 clear h
 by_cases c2 : a0.toList = ([] : List UInt8)
 ·rw [if_pos c2] at H
  have c2b0 : (a0.toList == ([] : List UInt8)) = true := beq_iff_eq.mpr c2
  have c2b1 : (a0.toList != ([] : List UInt8)) = false := bne_eq_false_iff_eq.mpr c2
  clear c2
  by_cases c3 : 1 + a0.size ≤ 9223372036854775807
  ·rw [if_pos c3] at H
   have c3b0 := eq_true c3
   have c3b1 : decide (1 + a0.size ≤ 9223372036854775807) = true := decide_eq_true c3
   try have c3b2 : (9223372036854775807 < 1 + a0.size) = False := eq_false (Nat.not_lt.2 c3)
   by_cases c4 : ((⟨#[60]⟩ : ByteArray) ++ a0).size + 1 ≤ 9223372036854775807
   ·rw [if_pos c4] at H
    have c4b0 := eq_true c4
    have c4b1 : decide (((⟨#[60]⟩ : ByteArray) ++ a0).size + 1 ≤ 9223372036854775807) = true := decide_eq_true c4
    try have c4b2 : (9223372036854775807 < ((⟨#[60]⟩ : ByteArray) ++ a0).size + 1) = False := eq_false (Nat.not_lt.2 c4)
    try (have c4b3 := c4b2; simp only [ByteArray.size_append, show (⟨#[60]⟩ : ByteArray).size = 1 from rfl] at c4b3)
    obtain rfl := Option.some.inj H
    go_enter Tryd.func27, Tryd.ntmps27
    go_wp2
    go_ret
    exact ⟨by first | rfl | (simp [errW_none, errW_some] <;> rfl) | (simp [*, errW_none, errW_some] <;> rfl), by repeat (first | (with_reducible first | exact HB.out | apply below_alloc | apply pw_below_drewN | apply below_drew1) | exact HB.out)⟩
   ·rw [if_neg c4] at H
    exact absurd H (by simp)
  ·rw [if_neg c3] at H
   exact absurd H (by simp)
 ·rw [if_neg c2] at H
  have c2b0 : (a0.toList == ([] : List UInt8)) = false := beq_eq_false_iff_ne.mpr c2
  have c2b1 : (a0.toList != ([] : List UInt8)) = true := bne_iff_ne.mpr c2
  replace H := Option.bind_eq_some_iff.mp H
  obtain ⟨t104, A50, H⟩ := H
  replace H : (if t104 = true then (if 1 + a0.size ≤ 9223372036854775807 then (if ((⟨#[60]⟩ : ByteArray) ++ a0).size + 1 ≤ 9223372036854775807 then (some (((⟨#[60]⟩ : ByteArray) ++ a0) ++ (⟨#[62]⟩ : ByteArray))) else (none)) else (none)) else (some (⟨#[]⟩ : ByteArray))) = some r := H
  have A5 := Aside0.mk A50
  clear A50
  by_cases c6 : t104 = true
  ·subst c6
   have H1 : (if 1 + a0.size ≤ 9223372036854775807 then (if ((⟨#[60]⟩ : ByteArray) ++ a0).size + 1 ≤ 9223372036854775807 then (some (((⟨#[60]⟩ : ByteArray) ++ a0) ++ (⟨#[62]⟩ : ByteArray))) else (none)) else (none)) = some r := by rw [if_pos rfl] at H; exact H
   clear H
   have H := H1
   clear H1
   by_cases c7 : 1 + a0.size ≤ 9223372036854775807
   ·rw [if_pos c7] at H
    have c7b0 := eq_true c7
    have c7b1 : decide (1 + a0.size ≤ 9223372036854775807) = true := decide_eq_true c7
    try have c7b2 : (9223372036854775807 < 1 + a0.size) = False := eq_false (Nat.not_lt.2 c7)
    by_cases c8 : ((⟨#[60]⟩ : ByteArray) ++ a0).size + 1 ≤ 9223372036854775807
    ·rw [if_pos c8] at H
     have c8b0 := eq_true c8
     have c8b1 : decide (((⟨#[60]⟩ : ByteArray) ++ a0).size + 1 ≤ 9223372036854775807) = true := decide_eq_true c8
     try have c8b2 : (9223372036854775807 < ((⟨#[60]⟩ : ByteArray) ++ a0).size + 1) = False := eq_false (Nat.not_lt.2 c8)
     try (have c8b3 := c8b2; simp only [ByteArray.size_append, show (⟨#[60]⟩ : ByteArray).size = 1 from rfl] at c8b3)
     obtain rfl := Option.some.inj H
     go_enter Tryd.func27, Tryd.ntmps27
     go_wp2_with (first | (go_at_call 36; (with_reducible refine (addr_May.calls a0 true _ A5.out).mono ?_); rintro e w9 ⟨rfl, hb⟩; have n0_ := Aside0.mk (below_step (by repeat (first | (with_reducible first | exact HB.out | apply below_alloc | apply pw_below_drewN | apply below_drew1) | exact HB.out)) hb); clear HB; have HB := n0_; clear n0_; (try clear hb); (try clear hb2); (try clear hk); (try clear hi)))
     go_ret
     exact ⟨by first | rfl | (simp [errW_none, errW_some] <;> rfl) | (simp [*, errW_none, errW_some] <;> rfl), by repeat (first | (with_reducible first | exact HB.out | apply below_alloc | apply pw_below_drewN | apply below_drew1) | exact HB.out)⟩
    ·rw [if_neg c8] at H
     exact absurd H (by simp)
   ·rw [if_neg c7] at H
    exact absurd H (by simp)
  ·replace c6 := Bool.eq_false_iff.mpr c6
   subst c6
   have H1 : (some (⟨#[]⟩ : ByteArray)) = some r := by rw [if_neg (show ¬ (false = true) by decide)] at H; exact H
   clear H
   have H := H1
   clear H1
   obtain rfl := Option.some.inj H
   go_enter Tryd.func27, Tryd.ntmps27
   go_wp2_with (first | (go_at_call 36; (with_reducible refine (addr_May.calls a0 false _ A5.out).mono ?_); rintro e w10 ⟨rfl, hb⟩; have n0_ := Aside0.mk (below_step (by repeat (first | (with_reducible first | exact HB.out | apply below_alloc | apply pw_below_drewN | apply below_drew1) | exact HB.out)) hb); clear HB; have HB := n0_; clear n0_; (try clear hb); (try clear hb2); (try clear hk); (try clear hi)))
   go_ret
   exact ⟨by first | rfl | (simp [errW_none, errW_some] <;> rfl) | (simp [*, errW_none, errW_some] <;> rfl), by repeat (first | (with_reducible first | exact HB.out | apply below_alloc | apply pw_below_drewN | apply below_drew1) | exact HB.out)⟩
end Go.Proofs.YtljkopbalejcgaaDoor.P
end
section
namespace Go.Proofs.YtljkopbalejcgaaDoor.P
open Go.RowKit Go.Proofs.YtljkopbalejcgaaDoorW.PrintWords Go.Proofs.YtljkopbalejcgaaDoorW.PrintLast Go.Proofs.YtljkopbalejcgaaDoorW.PrintMore
attribute [local go_sem] max2_int min2_int max_two min_two max_three min_three max_four min_four
set_option linter.unusedVariables false
set_option linter.unusedSimpArgs false
open Go Go.Lib
theorem getD_at (l : List UInt8) (j : Nat) (h : j < l.length) : l.getD j 0 = l[j] := by rw [List.getD_eq_getElem?_getD, List.getElem?_eq_getElem h]; rfl
theorem head_eq' (s : ByteArray) (h : 0 < s.size) : s.data.toList.head? = some s[0] := by
 rw [List.head?_eq_getElem?, List.getElem?_eq_getElem (by rw [len_eq]; exact h)]; rfl
set_option maxHeartbeats 1000000 in
theorem badVal_calls (c : UInt8) (w : World) : Calls Tryd.prog 56 (#[.int .u8 c.toNat] ++ #[]) w fun e w' => e = .returned (.bool (!valByte c)) ∧ w' = w := by
 have hb : 0 ≤ (c.toNat : Int) ∧ (c.toNat : Int) ≤ 255 := by have := c.toNat_lt; omega
 have HE := Lib.hid (show (!valByte c) = (decide ((c.toNat : Int) < 33) || decide (126 < (c.toNat : Int)) || ((c.toNat : Int) == 61)) by unfold valByte; rw [u8_beq c 61]; simp)
 go_enter Tryd.func56, Tryd.ntmps56
 go_wp2
 all_goals
  go_ret
  refine ⟨congrArg (fun b => Ending.returned (.bool b)) ?_, rfl⟩
  rw [HE.out, Bool.eq_iff_iff] <;> simp <;> omega
set_option maxHeartbeats 2000000 in
set_option maxRecDepth 100000 in
theorem param_no (n v : ByteArray) (w : World) (hn : n.size ≤ 140737488351232) (h : n.size < 1 ∨ 32 < n.size ∨ ∃ h : 0 < n.size, isUpper n[0] = false) :
  Calls Tryd.prog 45 #[.agg #[.string n, .string v]] w fun e w' => e = .returned (.bool false) ∧ Below w.heap.size w w' := by
 by_cases h0 : n.size < 1
 ·clear h
  go_enter Tryd.func45, Tryd.ntmps45
  go_wp2
  go_ret
  exact ⟨rfl, by repeat (first | exact Below.refl _ _ | apply below_alloc)⟩
 by_cases h1 : 32 < n.size
 ·clear h
  go_enter Tryd.func45, Tryd.ntmps45
  go_wp2
  go_ret
  exact ⟨rfl, by repeat (first | exact Below.refl _ _ | apply below_alloc)⟩
 have hp : 0 < n.size := by omega
 have hu : isUpper n[0] = false := by
  rcases h with h | h | ⟨_, h⟩
  ·exact absurd h h0
  ·exact absurd h h1
  ·exact h
 clear h
 have hx : (n[0].toNat : Int) < 65 ∨ (90 : Int) < (n[0].toNat : Int) := by
  rw [isUpper_eq] at hu; simp at hu; omega
 clear hu
 by_cases h2 : (n[0].toNat : Int) < 65
 ·clear hx
  go_enter Tryd.func45, Tryd.ntmps45
  go_wp2
  go_ret
  exact ⟨rfl, by repeat (first | exact Below.refl _ _ | apply below_alloc)⟩
 ·have h3 : (90 : Int) < (n[0].toNat : Int) := by omega
  clear hx
  go_enter Tryd.func45, Tryd.ntmps45
  go_wp2
  go_ret
  exact ⟨rfl, by repeat (first | exact Below.refl _ _ | apply below_alloc)⟩
set_option maxHeartbeats 2000000 in
set_option maxRecDepth 100000 in
theorem param_rest (n v : ByteArray) (w : World) (hn0 : 0 < n.size) (hn : n.size ≤ 32) (hv : v.size ≤ 140737488351232) (hu : isUpper n[0] = true) (rr : Bool) (HRR : Hid (rr = (n.data.toList.all nameByte && v.data.toList.all valByte))) :
  Calls Tryd.prog 45 #[.agg #[.string n, .string v]] w fun e w' => e = .returned (.bool rr) ∧ Below w.heap.size w w' := by
 have hx : (65 : Int) ≤ (n[0].toNat : Int) ∧ (n[0].toNat : Int) ≤ 90 := by rw [isUpper_eq] at hu; simpa using hu
 clear hu
 have hb1 : Below w.heap.size w (w.alloc (.cells #[.string n, .string v] 49)) := below_alloc (Below.refl _ _) _
 have hv1 : (w.alloc (.cells #[.string n, .string v] 49)).cell? ⟨w.heap.size, 1, none⟩ = some (.string v) := by go_simp
 have hcv := _root_.Go.Lib.run_convert_string_bytes (P := Tryd.prog) (w.alloc (.cells #[.string n, .string v] 49)) 9 59 5 n Tryd.underlying9 Tryd.underlying59 Tryd.underlying5
 have hrow := brow_conv (w.alloc (.cells #[.string n, .string v] 49)) 5 n
 have hbel := below_conv (w.alloc (.cells #[.string n, .string v] 49)) 5 n
 have hsz := bytesWorld_size (w.alloc (.cells #[.string n, .string v] 49)) 5 n
 have hv2 := (hbel.cell (World.block_lt_of_cell? _ _ hv1)).trans hv1
 have hb2 := below_then hb1 hb1.size hbel
 rw [World.size_alloc] at hcv hrow hsz
 generalize bytesWorld (w.alloc (.cells #[.string n, .string v] 49)) 5 n = W1 at hcv hrow hbel hsz hv2 hb2
 generalize grownCap _ n.size 0 5 = cap at hcv
 have hcv2 := _root_.Go.Lib.run_convert_string_bytes (P := Tryd.prog) W1 9 59 5 v Tryd.underlying9 Tryd.underlying59 Tryd.underlying5
 have hrow2 := brow_conv W1 5 v
 have hbel2 := below_conv W1 5 v
 have hsz2 := bytesWorld_size W1 5 v
 generalize bytesWorld W1 5 v = W2 at hcv2 hrow2 hbel2 hsz2
 generalize grownCap _ v.size 0 5 = cap2 at hcv2
 have hb3 := below_then hb2 hb2.size hbel2
 have hcont : Calls Tryd.prog 24 #[.slice (some ⟨W1.heap.size, 0, none⟩) v.size cap2, .func (.func 56) #[] #[]] W2 fun e w' => e = .returned (.bool (!v.data.toList.all valByte)) ∧ Below w.heap.size w w' := by
  refine (has_byte 56 #[] (enters_of Tryd.func56 (by kernel_rfl) rfl) v.size W1.heap.size cap2 (fun j => .int .u8 (v.data.toList.getD j 0).toNat) (fun j => !valByte (v.data.toList.getD j 0)) W2 hv (by omega) ?_ ?_).mono ?_
  ·intro j hj
   have hj' : j < v.data.toList.length := by rw [len_eq]; exact hj
   rw [(hrow2 j hj').1, getD_at _ j hj']
  ·intro j hj W hW
   exact (badVal_calls _ W).mono fun e W' ⟨he, hw⟩ => ⟨he, by rw [hw]; exact hW⟩
  ·rintro e w' ⟨rfl, hb⟩
   refine ⟨congrArg (fun b => Ending.returned (.bool b)) ?_, below_then hb3 hb3.size hb⟩
   rw [Bool.eq_iff_iff]
   simp only [List.any_eq_true, Bool.not_eq_true', List.all_eq_false, List.mem_range]
   constructor
   ·rintro ⟨j, hj, h⟩
    have hj' : j < v.data.toList.length := by rw [len_eq]; exact hj
    exact ⟨v.data.toList[j], List.getElem_mem hj', by rw [getD_at _ j hj'] at h; simpa using h⟩
   ·rintro ⟨x, hx, h⟩
    obtain ⟨j, hj, rfl⟩ := List.getElem_of_mem hx
    exact ⟨j, by rw [← len_eq]; exact hj, by rw [getD_at _ j hj]; simpa using h⟩
 have HCONT := Aside0.mk hcont
 have HB2 := Aside0.mk hb2
 have HB3 := Aside0.mk hb3
 have HR := Aside0.mk hrow
 clear hcont hb1 hv1 hbel hb2 hrow2 hbel2 hb3 hrow hsz2 hsz
 have e1 : decide ((n.size : Int) < 1) = false := decide_eq_false (by omega)
 have e2 : decide (32 < (n.size : Int)) = false := decide_eq_false (by omega)
 have e3 : decide ((n[0].toNat : Int) < 65) = false := decide_eq_false (by omega)
 have e4 : decide ((90 : Int) < (n[0].toNat : Int)) = false := decide_eq_false (by omega)
 clear hx
 go_enter Tryd.func45, Tryd.ntmps45
 go_wp2
 go_loopg [31] n.size (fun gk i wr => ∃ k : Nat, k ≤ n.size ∧ n.size - k ≤ gk ∧ i = .int .i64 k ∧ Aside0 ((n.data.toList.take k).all nameByte = true) ∧ wr = W1)
 case atStart => exact ⟨0, by omega, by omega, rfl, ⟨rfl⟩, rfl⟩
 case round =>
  obtain ⟨k, hk, hg, rfl, HA, rfl⟩ := hrel
  by_cases hlt : k < n.size
  ·have hlt' : k < n.data.toList.length := by rw [len_eq]; exact hlt
   obtain ⟨hc, _⟩ := HR.out k hlt'
   have TL := Lib.hid (take_all_succ n.data.toList nameByte k hlt')
   have TF := Lib.hid (all_false_of n.data.toList nameByte k hlt')
   generalize n.data.toList[k] = c at hc TL TF
   have hb : 0 ≤ (c.toNat : Int) ∧ (c.toNat : Int) ≤ 255 := by have := c.toNat_lt; omega
   have h5 : ((c.toNat : Int) < 48) ∨ (48 ≤ (c.toNat : Int) ∧ (c.toNat : Int) ≤ 57) ∨ (57 < (c.toNat : Int) ∧ (c.toNat : Int) < 65) ∨ (65 ≤ (c.toNat : Int) ∧ (c.toNat : Int) ≤ 90) ∨ 90 < (c.toNat : Int) := by omega
   rcases h5 with h5 | ⟨h5, h6⟩ | ⟨h5, h6⟩ | ⟨h5, h6⟩ | h5
   ·have hd1 : decide (65 ≤ (c.toNat : Int)) = false := decide_eq_false (by omega)
    have hd2 : decide ((c.toNat : Int) ≤ 90) = true := decide_eq_true (by omega)
    have hd3 : decide (48 ≤ (c.toNat : Int)) = false := decide_eq_false (by omega)
    have hd4 : decide ((c.toNat : Int) ≤ 57) = true := decide_eq_true (by omega)
    go_wp2
    go_ret
    exact ⟨by rw [HRR.out, TF.out (nameByte_f (by omega) (by omega))]; rfl, HB2.out⟩
   ·have hd1 : decide (65 ≤ (c.toNat : Int)) = false := decide_eq_false (by omega)
    have hd2 : decide ((c.toNat : Int) ≤ 90) = true := decide_eq_true (by omega)
    have hd3 : decide (48 ≤ (c.toNat : Int)) = true := decide_eq_true (by omega)
    have hd4 : decide ((c.toNat : Int) ≤ 57) = true := decide_eq_true (by omega)
    go_wp2
    go_roundg (n.size - (k + 1))
    case measure => omega
    case rel => exact ⟨k + 1, by omega, by omega, by go_num, ⟨by rw [TL.out, HA.out]; exact nameByte_t (.inr ⟨by omega, by omega⟩)⟩, rfl⟩
   ·have hd1 : decide (65 ≤ (c.toNat : Int)) = false := decide_eq_false (by omega)
    have hd2 : decide ((c.toNat : Int) ≤ 90) = true := decide_eq_true (by omega)
    have hd3 : decide (48 ≤ (c.toNat : Int)) = true := decide_eq_true (by omega)
    have hd4 : decide ((c.toNat : Int) ≤ 57) = false := decide_eq_false (by omega)
    go_wp2
    go_ret
    exact ⟨by rw [HRR.out, TF.out (nameByte_f (by omega) (by omega))]; rfl, HB2.out⟩
   ·have hd1 : decide (65 ≤ (c.toNat : Int)) = true := decide_eq_true (by omega)
    have hd2 : decide ((c.toNat : Int) ≤ 90) = true := decide_eq_true (by omega)
    have hd3 : decide (48 ≤ (c.toNat : Int)) = true := decide_eq_true (by omega)
    have hd4 : decide ((c.toNat : Int) ≤ 57) = false := decide_eq_false (by omega)
    go_wp2
    go_roundg (n.size - (k + 1))
    case measure => omega
    case rel => exact ⟨k + 1, by omega, by omega, by go_num, ⟨by rw [TL.out, HA.out]; exact nameByte_t (.inl ⟨by omega, by omega⟩)⟩, rfl⟩
   ·have hd1 : decide (65 ≤ (c.toNat : Int)) = true := decide_eq_true (by omega)
    have hd2 : decide ((c.toNat : Int) ≤ 90) = false := decide_eq_false (by omega)
    have hd3 : decide (48 ≤ (c.toNat : Int)) = true := decide_eq_true (by omega)
    have hd4 : decide ((c.toNat : Int) ≤ 57) = false := decide_eq_false (by omega)
    go_wp2
    go_ret
    exact ⟨by rw [HRR.out, TF.out (nameByte_f (by omega) (by omega))]; rfl, HB2.out⟩
  ·have e : k = n.size := by omega
   subst e
   have HA2 : n.data.toList.all nameByte = true := by have := HA.out; rw [List.take_of_length_le (by rw [len_eq]; omega)] at this; exact this
   have HA3 := Lib.hid HA2
   clear HA2 HR HA
   cases hva : v.data.toList.all valByte with
   | true =>
    rw [hva] at HCONT
    have HV := Lib.hid hva
    clear hva
    go_wp2_with (go_at_call 24; refine HCONT.out.mono ?_; rintro e w' ⟨rfl, hb⟩; have HB4 := Aside0.mk hb; clear hb)
    go_ret
    exact ⟨by rw [HRR.out, HA3.out, HV.out]; rfl, HB4.out⟩
   | false =>
    rw [hva] at HCONT
    have HV := Lib.hid hva
    clear hva
    go_wp2_with (go_at_call 24; refine HCONT.out.mono ?_; rintro e w' ⟨rfl, hb⟩; have HB4 := Aside0.mk hb; clear hb)
    go_ret
    exact ⟨by rw [HRR.out, HA3.out, HV.out]; rfl, HB4.out⟩
def cmd_param.f (a0_0 : ByteArray) (a0_1 : ByteArray) : Option Bool := if a0_0.size ≤ 140737488351232 ∧ a0_1.size ≤ 140737488351232 then some (paramOk a0_0.data.toList a0_1.data.toList) else none
theorem cmd_param.calls (a0_0 : ByteArray) (a0_1 : ByteArray) (r : Bool) (w : World) (h : cmd_param.f a0_0 a0_1 = some r) :
  Calls Tryd.prog 45 #[.agg #[.string a0_0, .string a0_1]] w fun e w' => e = .returned (.bool r) ∧ Below w.heap.size w w' := by
 unfold cmd_param.f at h
 split at h
 ·rename_i hs
  obtain rfl := Option.some.inj h
  by_cases hno : a0_0.size < 1 ∨ 32 < a0_0.size ∨ ∃ h : 0 < a0_0.size, isUpper a0_0[0] = false
  ·have e : paramOk a0_0.data.toList a0_1.data.toList = false := by
    unfold paramOk pnameOk
    rcases hno with h | h | ⟨h0, h⟩
    ·simp [show a0_0.size = 0 by omega]
    ·simp [show ¬ a0_0.size ≤ 32 by omega]
    ·simp [head_eq' a0_0 h0, h]
   rw [e]
   exact param_no a0_0 a0_1 w hs.1 hno
  ·have h0 : 0 < a0_0.size := by omega
   have h1 : a0_0.size ≤ 32 := by omega
   have h2 : isUpper a0_0[0] = true := by
    cases hb : isUpper a0_0[0] with
    | true => rfl
    | false => exact absurd (.inr (.inr ⟨h0, hb⟩)) hno
   have e : paramOk a0_0.data.toList a0_1.data.toList = (a0_0.data.toList.all nameByte && a0_1.data.toList.all valByte) := by
    unfold paramOk pnameOk
    simp [head_eq' a0_0 h0, h2, h1, show 1 ≤ a0_0.size from h0]
   exact param_rest a0_0 a0_1 w h0 h1 hs.2 h2 _ e
 ·simp at h
end Go.Proofs.YtljkopbalejcgaaDoor.P
end
section
namespace Go.Proofs.YtljkopbalejcgaaDoor.P
open Go.RowKit Go.Proofs.YtljkopbalejcgaaDoorW.PrintWords Go.Proofs.YtljkopbalejcgaaDoorW.PrintLast Go.Proofs.YtljkopbalejcgaaDoorW.PrintMore
attribute [local go_sem] max2_int min2_int max_two min_two max_three min_three max_four min_four
set_option linter.unusedVariables false
set_option linter.unusedSimpArgs false
open Go Go.Lib
theorem getD_pl (l : List S49) (i : Nat) : (l.map fun p => (p.f0.data.toList, p.f1.data.toList)).getD i ([], []) = ((l.getD i z49).f0.data.toList, (l.getD i z49).f1.data.toList) := by
 rw [List.getD_eq_getElem?_getD, List.getD_eq_getElem?_getD, List.getElem?_map]
 cases l[i]? <;> rfl
def plOf (l : List S49) : PL := l.map fun p => (p.f0.data.toList, p.f1.data.toList)
set_option maxHeartbeats 1000000 in
theorem params1_calls (P : Nat) (pn xn xv : ByteArray) (W : World) (h : W.cell? ⟨P, 0, none⟩ = some (.string pn)) :
  Calls Tryd.prog 50 (#[.agg #[.string xn, .string xv]] ++ #[.pointer (some ⟨P, 0, none⟩)]) W fun e W' => e = .returned (.bool (xn.data.toList == pn.data.toList)) ∧ Below W.heap.size W W' := by
 have h2 : (W.alloc (.cells #[.string xn, .string xv] 49)).cell? ⟨P, 0, none⟩ = some (.string pn) := (World.cell?_alloc_lt _ _ _ (World.block_lt_of_cell? _ _ h)).trans h
 go_enter Tryd.func50, Tryd.ntmps50
 go_wp2
 go_ret
 exact ⟨by rw [← Lib.toList_data, ← Lib.toList_data]; rfl, below_alloc (Below.refl _ _) _⟩
set_option maxHeartbeats 2000000 in
set_option maxRecDepth 100000 in
theorem params_walk (A : Option Addr) (c : Nat) (l : List S49) (w : World) (hr : Kd.C k49 w A l.length l) (hc : l.length ≤ c) (hlen : l.length ≤ 140737488351232)
  (hsz : ∀ i, i < l.length → (l.getD i z49).f0.size ≤ 140737488351232 ∧ (l.getD i z49).f1.size ≤ 140737488351232) (rr : Bool) (HRR : Hid (rr = paramsOk (plOf l))) :
  Calls Tryd.prog 35 #[.slice A l.length c] w fun e w' => e = .returned (.bool rr) ∧ Below w.heap.size w w' := by
 have HR := Aside0.mk hr
 have HSZ := Aside0.mk hsz
 have hlp : (plOf l).length = l.length := by unfold plOf; exact List.length_map ..
 have HLP := Lib.hid hlp
 clear hr hsz hlp
 go_enter Tryd.func35, Tryd.ntmps35
 go_wp2
 go_loopg [7] l.length (fun gk i wr => ∃ k : Nat, k ≤ l.length ∧ l.length - k ≤ gk ∧ i = .int .i64 k ∧ Aside0 (Below w.heap.size w wr) ∧ Aside0 (∀ j, j < k → parAt (plOf l) j = true))
 case atStart => exact ⟨0, by omega, by omega, rfl, ⟨Below.refl _ _⟩, ⟨fun j h => absurd h (Nat.not_lt_zero _)⟩⟩
 case round =>
  obtain ⟨k, hk, hg, rfl, HB, HF⟩ := hrel
  by_cases hlt : k < l.length
  ·have hltz : (k : Int) < (l.length : Int) := by omega
   obtain ⟨ad, rfl, hc0, hc1⟩ := at_T49 (Kd.C_below HR.out HB.out) k (by omega) hltz
   rw [show rd_T49 l (k : Int) = l.getD k z49 from by unfold rd_T49; rw [Int.toNat_natCast]] at hc0 hc1
   rw [Int.toNat_natCast] at hc0 hc1
   have hs1 := HSZ.out k hlt
   have hpar : ∀ W, Calls Tryd.prog 45 #[.agg #[.string (l.getD k z49).f0, .string (l.getD k z49).f1]] W fun e w' => e = .returned (.bool (paramOk ((plOf l).getD k ([], [])).1 ((plOf l).getD k ([], [])).2)) ∧ Below W.heap.size W w' := fun W =>
    cmd_param.calls _ _ _ W (by unfold cmd_param.f; rw [if_pos hs1]; unfold plOf; rw [getD_pl])
   have HAT := Lib.hid (show parAt (plOf l) k = _ from rfl)
   cases hpk : paramOk ((plOf l).getD k ([], [])).1 ((plOf l).getD k ([], [])).2 with
   | false =>
    rw [hpk] at hpar
    have HFA : Aside0 (rr = false) := ⟨by
     rw [HRR]; unfold paramsOk
     rw [show (List.range (plOf l).length).all (parAt (plOf l)) = false from by
      rw [List.all_eq_false]; exact ⟨k, by rw [HLP]; exact List.mem_range.2 hlt, by unfold parAt; rw [hpk]; simp⟩]
     rfl⟩
    generalize (l.getD k z49).f0 = nk at hc0 hpar
    generalize (l.getD k z49).f1 = vk at hc1 hpar
    clear hpk hs1
    go_wp2_with (go_at_call 45; refine (hpar _).mono ?_; rintro e w2 ⟨rfl, hb⟩; have HB2 := Aside0.mk hb; clear hb)
    go_ret
    exact ⟨by rw [HFA.out]; rfl, below_then (by repeat (first | exact HB.out | apply below_alloc)) (by simp; exact Nat.le_succ_of_le HB.out.size) HB2.out⟩
   | true =>
    rw [hpk] at hpar
    have hdup : ∀ W2, Below w.heap.size w W2 → W2.cell? ⟨wr.heap.size, 0, none⟩ = some (.string (l.getD k z49).f0) → Calls Tryd.prog 49 #[.slice (some ad) k c, .func (.func 50) #[] #[.pointer (some ⟨wr.heap.size, 0, none⟩)]] W2 fun e w' => e = .returned (.bool ((List.range k).any fun j => ((plOf l).getD j ([], [])).1 == ((plOf l).getD k ([], [])).1)) ∧ Below W2.heap.size W2 w' := by
     intro W2 hb2 hcp
     refine has_param 50 #[.pointer (some ⟨wr.heap.size, 0, none⟩)] (enters_of Tryd.func50 (by kernel_rfl) rfl) k c ad (fun j => .agg #[.string (l.getD j z49).f0, .string (l.getD j z49).f1]) (fun j => ((plOf l).getD j ([], [])).1 == ((plOf l).getD k ([], [])).1) W2 (by omega) ?_ ?_ ?_
     ·intro h0
      obtain ⟨ad', e, g0, _⟩ := at_T49 (Kd.C_below HR.out hb2) 0 (by omega) (by omega)
      cases e
      have := World.block_lt_of_cell? _ _ g0
      simpa [Addr.add] using this
     ·intro j hj
      obtain ⟨ad', e, g0, g1⟩ := at_T49 (Kd.C_below HR.out hb2) j (by omega) (by omega)
      cases e
      rw [show rd_T49 l (j : Int) = l.getD j z49 from by unfold rd_T49; rw [Int.toNat_natCast]] at g0 g1
      rw [Int.toNat_natCast] at g0 g1
      exact ⟨_, _, rfl, g0, g1⟩
     ·intro j hj W hW
      refine (params1_calls wr.heap.size (l.getD k z49).f0 (l.getD j z49).f0 (l.getD j z49).f1 W ((hW.cell (World.block_lt_of_cell? _ _ hcp)).trans hcp)).mono fun e W' ⟨he, hb⟩ => ⟨?_, below_then hW hW.size hb⟩
      rw [he]; unfold plOf; rw [getD_pl, getD_pl]
    have hpa : parAt (plOf l) k = !(List.range k).any fun j => ((plOf l).getD j ([], [])).1 == ((plOf l).getD k ([], [])).1 := by unfold parAt; rw [hpk, Bool.true_and]
    have HPA := Lib.hid hpa
    clear hpa
    have hcell : (wr.alloc (.cells #[.string (l.getD k z49).f0, .string (l.getD k z49).f1] 49)).cell? ⟨wr.heap.size, 0, none⟩ = some (.string (l.getD k z49).f0) := by go_simp
    have HDUP := Aside0.mk hdup
    have HCELL := Aside0.mk hcell
    have hsl : k ≤ c := by omega
    have hsl2 : 0 ≤ (k : Int) ∧ (k : Int) ≤ (l.length : Int) ∧ (k : Int) ≤ (c : Int) := by omega
    clear hdup hcell hpk hs1
    cases hd : (List.range k).any fun j => ((plOf l).getD j ([], [])).1 == ((plOf l).getD k ([], [])).1 with
    | true =>
     rw [hd] at HDUP
     have HFA : Aside0 (rr = false) := ⟨by
      rw [HRR]; unfold paramsOk
      rw [show (List.range (plOf l).length).all (parAt (plOf l)) = false from by
       rw [List.all_eq_false]; exact ⟨k, by rw [HLP]; exact List.mem_range.2 hlt, by rw [HPA, hd]; simp⟩]
      rfl⟩
     clear hd
     generalize (l.getD k z49).f0 = nk at hc0 hpar HDUP HCELL
     generalize (l.getD k z49).f1 = vk at hc1 hpar HCELL
     go_wp2_with (first | (go_at_call 45; refine (hpar _).mono ?_; rintro e w2 ⟨rfl, hb⟩; have HB2 : Aside0 (Below w.heap.size w w2) := ⟨below_then (by repeat (first | exact HB.out | apply below_alloc)) (by simp; exact Nat.le_succ_of_le HB.out.size) hb⟩; have HC2 := Aside0.mk ((hb.cell (World.block_lt_of_cell? _ _ HCELL.out)).trans HCELL.out); clear hb) | (go_at_call 49; refine (HDUP.out _ HB2.out HC2.out).mono ?_; rintro e w3 ⟨rfl, hb⟩; have HB3 : Aside0 (Below w.heap.size w w3) := ⟨below_then HB2.out HB2.out.size hb⟩; clear hb))
     go_ret
     exact ⟨by rw [HFA.out]; rfl, HB3.out⟩
    | false =>
     rw [hd] at HDUP
     have HPA2 := Lib.hid (HPA.trans (by rw [hd]; rfl) : parAt (plOf l) k = true)
     clear hd
     generalize (l.getD k z49).f0 = nk at hc0 hpar HDUP HCELL
     generalize (l.getD k z49).f1 = vk at hc1 hpar HCELL
     go_wp2_with (first | (go_at_call 45; refine (hpar _).mono ?_; rintro e w2 ⟨rfl, hb⟩; have HB2 : Aside0 (Below w.heap.size w w2) := ⟨below_then (by repeat (first | exact HB.out | apply below_alloc)) (by simp; exact Nat.le_succ_of_le HB.out.size) hb⟩; have HC2 := Aside0.mk ((hb.cell (World.block_lt_of_cell? _ _ HCELL.out)).trans HCELL.out); clear hb) | (go_at_call 49; refine (HDUP.out _ HB2.out HC2.out).mono ?_; rintro e w3 ⟨rfl, hb⟩; have HB3 : Aside0 (Below w.heap.size w w3) := ⟨below_then HB2.out HB2.out.size hb⟩; clear hb))
     go_roundg (l.length - (k + 1))
     case measure => omega
     case rel => exact ⟨k + 1, by omega, by omega, by go_num, HB3, ⟨fun j hj => by
      by_cases e : j = k
      ·subst e; exact HPA2
      ·exact HF.out j (by omega)⟩⟩
  ·have hltz : ¬ (k : Int) < (l.length : Int) := by omega
   have e : k = l.length := by omega
   subst e
   have HFA : Aside0 (rr = decide ((l.length : Int) ≤ 8)) := ⟨by
    rw [HRR]; unfold paramsOk
    rw [show (List.range (plOf l).length).all (parAt (plOf l)) = true from by
     rw [List.all_eq_true]; intro j hj; rw [HLP] at hj; exact HF.out j (List.mem_range.1 hj), Bool.true_and, HLP, Bool.eq_iff_iff]
    simp; omega⟩
   go_wp2
   go_ret
   exact ⟨by rw [HFA.out]; rfl, HB.out⟩
def plSmall (l : List S49) : Bool := decide (l.length ≤ 140737488351232) && l.all fun x => decide (x.f0.size ≤ 140737488351232) && decide (x.f1.size ≤ 140737488351232)
theorem plSmall_len {l} (h : plSmall l = true) : l.length ≤ 140737488351232 := by unfold plSmall at h; simp at h; exact h.1
theorem plSmall_mem {l} (h : plSmall l = true) {x} (hx : x ∈ l) : x.f0.size ≤ 140737488351232 ∧ x.f1.size ≤ 140737488351232 := by unfold plSmall at h; simp at h; exact h.2 x hx
theorem plSmall_at {l} (h : plSmall l = true) (i : Nat) (hi : i < l.length) : (l.getD i z49).f0.size ≤ 140737488351232 ∧ (l.getD i z49).f1.size ≤ 140737488351232 := by
 rw [List.getD_eq_getElem?_getD, List.getElem?_eq_getElem hi]; exact plSmall_mem h (List.getElem_mem hi)
def cmd_params.f (l0 : List S49) : Option Bool := if plSmall l0 = true then some (paramsOk (plOf l0)) else none
theorem cmd_params.calls (A0 : Option Addr) (c0 : Nat) (l0 : List S49) (r : Bool) (w : World) (hr0 : Kd.C k49 w A0 l0.length l0) (hc0 : l0.length ≤ c0) (h : cmd_params.f l0 = some r) :
  Calls Tryd.prog 35 #[.slice A0 l0.length c0] w fun e w' => e = .returned (.bool r) ∧ Below w.heap.size w w' := by
 unfold cmd_params.f at h
 by_cases hs : plSmall l0 = true
 ·rw [if_pos hs] at h; cases h
  exact params_walk A0 c0 l0 w hr0 hc0 (plSmall_len hs) (plSmall_at hs) _ rfl
 ·rw [if_neg hs] at h; cases h
end Go.Proofs.YtljkopbalejcgaaDoor.P
end
section
namespace Go.Proofs.YtljkopbalejcgaaDoor.P
open Go.RowKit Go.Proofs.YtljkopbalejcgaaDoorW.PrintWords Go.Proofs.YtljkopbalejcgaaDoorW.PrintLast Go.Proofs.YtljkopbalejcgaaDoorW.PrintMore
attribute [local go_sem] max2_int min2_int max_two min_two max_three min_three max_four min_four
set_option linter.unusedVariables false
set_option linter.unusedSimpArgs false
def cmd_May.j0 : Nat → Int → Bool → Int → ByteArray → List (S49) → Option (Bool)
 | 0, _, _, _, _, _ => none
 | k + 1, x4, x16, x106000, x106001, x106002 => if x16 = true then (if x106001.toList = ([] : List UInt8) then (some ((x106002.length : Int) == 0)) else (some false)) else (if x4 = 3 then ((addr_Path.f x106001).bind fun t107 => (if t107.toList = ([] : List UInt8) then (some false) else ((cmd_params.f x106002).bind fun t108 => (some t108)))) else (if x4 = 4 then ((addr_May.f x106001).bind fun t109 => (if t109 = true then ((cmd_params.f x106002).bind fun t110 => (some t110)) else (some false))) else (some false)))
def cmd_May.f (k : Nat) (a0_0 : Int) (a0_1 : ByteArray) (l0_2 : List (S49)) : Option (Bool) := if a0_0 = 1 then ((name_May.f a0_1).bind fun t106 => (if t106 = true then (some ((l0_2.length : Int) == 0)) else (some false))) else (if a0_0 = 2 then (cmd_May.j0 k a0_0 (a0_0 == 2) a0_0 a0_1 l0_2) else (if a0_0 = 5 then (cmd_May.j0 k a0_0 (a0_0 == 5) a0_0 a0_1 l0_2) else (cmd_May.j0 k a0_0 (a0_0 == 6) a0_0 a0_1 l0_2)))
theorem cmd_May.mono_l : ∀ k, (∀ y0 y1 y2 y3 y4, LeO (cmd_May.j0 k y0 y1 y2 y3 y4) (cmd_May.j0 (k + 1) y0 y1 y2 y3 y4))
 | 0 => fun _ _ _ _ _ r h => by simp [cmd_May.j0] at h
 | k + 1 => by
  have ih0 := cmd_May.mono_l k
  ·intro y0 y1 y2 y3 y4
   unfold cmd_May.j0
   repeat' first
   | (with_reducible exact ih0 _ _ _ _ _)
   | (with_reducible exact LeO.refl _)
   | (with_reducible exact LeO.none _)
   | (with_reducible refine LeO.ite ?_ ?_)
   | (with_reducible refine LeO.bind ?_ (fun _ => ?_))
   | exact ih0 _ _ _ _ _
   | exact LeO.none _
   | refine LeO.ite ?_ ?_
   | refine LeO.bind ?_ (fun _ => ?_)
theorem cmd_May.mono : ∀ a0 a1 a2 k, LeO (cmd_May.f k a0 a1 a2) (cmd_May.f (k + 1) a0 a1 a2) := by
 intro a0 a1 a2 k
 have ih0 := cmd_May.mono_l k
 unfold cmd_May.f
 repeat' first
   | (with_reducible exact ih0 _ _ _ _ _)
   | (with_reducible exact LeO.refl _)
   | (with_reducible exact LeO.none _)
   | (with_reducible refine LeO.ite ?_ ?_)
   | (with_reducible refine LeO.bind ?_ (fun _ => ?_))
   | exact ih0 _ _ _ _ _
   | exact LeO.none _
   | refine LeO.ite ?_ ?_
   | refine LeO.bind ?_ (fun _ => ?_)
set_option maxHeartbeats 8000000 in
set_option maxRecDepth 100000 in
theorem cmd_May.calls (k : Nat) (a0_0 : Int) (a0_1 : ByteArray) (A0_2 : Option Addr) (c0_2 : Nat) (l0_2 : List (S49)) (r : Bool) (w : World) (hr0_2 : Kd.C k49 w A0_2 l0_2.length l0_2) (hc0_2 : l0_2.length ≤ c0_2) (h : cmd_May.f k a0_0 a0_1 l0_2 = some r) :
  Calls Tryd.prog 17 #[.agg #[.int .u8 a0_0, .string a0_1, .slice A0_2 l0_2.length c0_2]] w fun e w' => e = .returned (.bool r) ∧ Below w.heap.size w w' := by
 have hu27 := Tryd.underlying27
 have HR0_2 := Aside0.mk hr0_2
 have HC0_2 := Aside0.mk hc0_2
 clear hr0_2 hc0_2
 have HB := Aside0.mk (Below.refl w.heap.size w)
 have H : (if a0_0 = 1 then ((name_May.f a0_1).bind fun t106 => (if t106 = true then (some ((l0_2.length : Int) == 0)) else (some false))) else (if a0_0 = 2 then (cmd_May.j0 k a0_0 (a0_0 == 2) a0_0 a0_1 l0_2) else (if a0_0 = 5 then (cmd_May.j0 k a0_0 (a0_0 == 5) a0_0 a0_1 l0_2) else (cmd_May.j0 k a0_0 (a0_0 == 6) a0_0 a0_1 l0_2)))) = some r := h
 clear h
 by_cases c2 : a0_0 = 1
 ·rw [if_pos c2] at H
  have c2b0 : (a0_0 == 1) = true := beq_iff_eq.mpr c2
  have c2b1 : (a0_0 != 1) = false := bne_eq_false_iff_eq.mpr c2
  clear c2
  replace H := Option.bind_eq_some_iff.mp H
  obtain ⟨t106, A30, H⟩ := H
  replace H : (if t106 = true then (some ((l0_2.length : Int) == 0)) else (some false)) = some r := H
  have A3 := Aside0.mk A30
  clear A30
  by_cases c4 : t106 = true
  ·subst c4
   have H1 : (some ((l0_2.length : Int) == 0)) = some r := by rw [if_pos rfl] at H; exact H
   clear H
   have H := H1
   clear H1
   obtain rfl := Option.some.inj H
   go_enter Tryd.func17, Tryd.ntmps17
   go_wp2_with (first | ((with_reducible refine gate_dst (N := 1) rfl ?_); (try (refine gate_guard (by rfl) ?_; dsimp only)); refine box_event ?hg (N := 1) ?hd (cs := #[.int .u8 a0_0, .string a0_1, .slice A0_2 l0_2.length c0_2]) (t := 27) ?hr ?_; (case hd => rfl); (case hg => rfl); (case hr => first | (go_simp; done) | (go_simp; rfl)); intro gb105 hg w5 hbox hb; have n0_ := Aside0.mk (below_step (by repeat (first | (with_reducible first | exact HB.out | apply below_alloc | apply pw_below_drewN | apply below_drew1) | exact HB.out)) hb); have n1_ := Aside0.mk (hbox); have n2_ := Aside0.mk ((by rw [hg]; exact (below_size (by repeat (first | (with_reducible first | exact HB.out | apply below_alloc | apply pw_below_drewN | apply below_drew1) | exact HB.out))) : w.heap.size ≤ gb105)); have n3_ := Aside0.mk ((by rw [hg]; exact (below_size (by repeat (first | (with_reducible first | exact HB.out | apply below_alloc | apply pw_below_drewN | apply below_drew1) | exact HB.out))) : w.heap.size ≤ gb105)); clear HB; have HB := n0_; have BK105 := n1_; have GW105 := n2_; have GE105 := n3_; clear n0_ n1_ n2_ n3_; clear hb hbox hg; have hcz6_0 : w5.cell? ⟨gb105, 0, none⟩ = some (.int .u8 a0_0) := (blk_cell BK105.out 0).trans rfl; have hcz6_1 : w5.cell? ⟨gb105, 1, none⟩ = some (.string a0_1) := (blk_cell BK105.out 1).trans rfl; have hcz6_2 : w5.cell? ⟨gb105, 2, none⟩ = some (.slice A0_2 l0_2.length c0_2) := (blk_cell BK105.out 2).trans rfl; have hfz6_0 := blk_frozen BK105.out 0; have hfz6_1 := blk_frozen BK105.out 1; have hfz6_2 := blk_frozen BK105.out 2) | ((with_reducible refine gate_callee (f := 34) rfl ?_); refine goesL_ (some 9) rfl rfl Tryd.func34 (by kernel_rfl) rfl #[.string a0_1] rfl (by (try simp only [List.map_toArray, List.map_cons, List.map_nil]); first | done | rfl | (simp only [List.length_drop, List.length_take]; rfl)) ?_; (with_reducible refine (name_May.calls a0_1 true _ A3.out).mono ?_); rintro e w7 ⟨rfl, hb⟩; refine ⟨_, rfl, ?_⟩; have n0_ := Aside0.mk (blk_below (g := gb105) (o := .cells #[.int .u8 a0_0, .string a0_1, .slice A0_2 l0_2.length c0_2] 27 (0, 0)) (by (with_reducible repeat (first | refine blk_drewN ?_ _ | refine blk_drew ?_ | refine blk_alloc ?_ _)); exact BK105.out) hb); have n1_ := Aside0.mk (below_step (by repeat (first | (with_reducible first | exact HB.out | apply below_alloc | apply pw_below_drewN | apply below_drew1 | refine below_set ?_ GE105.out) | exact HB.out)) hb); clear BK105; clear HB; have BK105 := n0_; have HB := n1_; clear n0_ n1_; (try clear hb); (try clear hb2); (try clear hk); (try clear hi); have hcz8_0 : w7.cell? ⟨gb105, 0, none⟩ = some (.int .u8 a0_0) := (blk_cell BK105.out 0).trans rfl; have hcz8_1 : w7.cell? ⟨gb105, 1, none⟩ = some (.string a0_1) := (blk_cell BK105.out 1).trans rfl; have hcz8_2 : w7.cell? ⟨gb105, 2, none⟩ = some (.slice A0_2 l0_2.length c0_2) := (blk_cell BK105.out 2).trans rfl; have hfz8_0 := blk_frozen BK105.out 0; have hfz8_1 := blk_frozen BK105.out 1; have hfz8_2 := blk_frozen BK105.out 2))
   go_ret
   exact ⟨by first | rfl | (simp [errW_none, errW_some] <;> rfl) | (simp [*, errW_none, errW_some] <;> rfl), by repeat (first | (with_reducible first | exact HB.out | apply below_alloc | apply pw_below_drewN | apply below_drew1 | refine below_set ?_ GE105.out) | exact HB.out)⟩
  ·replace c4 := Bool.eq_false_iff.mpr c4
   subst c4
   have H1 : (some false) = some r := by rw [if_neg (show ¬ (false = true) by decide)] at H; exact H
   clear H
   have H := H1
   clear H1
   obtain rfl := Option.some.inj H
   go_enter Tryd.func17, Tryd.ntmps17
   go_wp2_with (first | ((with_reducible refine gate_dst (N := 1) rfl ?_); (try (refine gate_guard (by rfl) ?_; dsimp only)); refine box_event ?hg (N := 1) ?hd (cs := #[.int .u8 a0_0, .string a0_1, .slice A0_2 l0_2.length c0_2]) (t := 27) ?hr ?_; (case hd => rfl); (case hg => rfl); (case hr => first | (go_simp; done) | (go_simp; rfl)); intro gb105 hg w9 hbox hb; have n0_ := Aside0.mk (below_step (by repeat (first | (with_reducible first | exact HB.out | apply below_alloc | apply pw_below_drewN | apply below_drew1) | exact HB.out)) hb); have n1_ := Aside0.mk (hbox); have n2_ := Aside0.mk ((by rw [hg]; exact (below_size (by repeat (first | (with_reducible first | exact HB.out | apply below_alloc | apply pw_below_drewN | apply below_drew1) | exact HB.out))) : w.heap.size ≤ gb105)); have n3_ := Aside0.mk ((by rw [hg]; exact (below_size (by repeat (first | (with_reducible first | exact HB.out | apply below_alloc | apply pw_below_drewN | apply below_drew1) | exact HB.out))) : w.heap.size ≤ gb105)); clear HB; have HB := n0_; have BK105 := n1_; have GW105 := n2_; have GE105 := n3_; clear n0_ n1_ n2_ n3_; clear hb hbox hg; have hcz10_0 : w9.cell? ⟨gb105, 0, none⟩ = some (.int .u8 a0_0) := (blk_cell BK105.out 0).trans rfl; have hcz10_1 : w9.cell? ⟨gb105, 1, none⟩ = some (.string a0_1) := (blk_cell BK105.out 1).trans rfl; have hcz10_2 : w9.cell? ⟨gb105, 2, none⟩ = some (.slice A0_2 l0_2.length c0_2) := (blk_cell BK105.out 2).trans rfl; have hfz10_0 := blk_frozen BK105.out 0; have hfz10_1 := blk_frozen BK105.out 1; have hfz10_2 := blk_frozen BK105.out 2) | ((with_reducible refine gate_callee (f := 34) rfl ?_); refine goesL_ (some 9) rfl rfl Tryd.func34 (by kernel_rfl) rfl #[.string a0_1] rfl (by (try simp only [List.map_toArray, List.map_cons, List.map_nil]); first | done | rfl | (simp only [List.length_drop, List.length_take]; rfl)) ?_; (with_reducible refine (name_May.calls a0_1 false _ A3.out).mono ?_); rintro e w11 ⟨rfl, hb⟩; refine ⟨_, rfl, ?_⟩; have n0_ := Aside0.mk (blk_below (g := gb105) (o := .cells #[.int .u8 a0_0, .string a0_1, .slice A0_2 l0_2.length c0_2] 27 (0, 0)) (by (with_reducible repeat (first | refine blk_drewN ?_ _ | refine blk_drew ?_ | refine blk_alloc ?_ _)); exact BK105.out) hb); have n1_ := Aside0.mk (below_step (by repeat (first | (with_reducible first | exact HB.out | apply below_alloc | apply pw_below_drewN | apply below_drew1 | refine below_set ?_ GE105.out) | exact HB.out)) hb); clear BK105; clear HB; have BK105 := n0_; have HB := n1_; clear n0_ n1_; (try clear hb); (try clear hb2); (try clear hk); (try clear hi)))
   go_ret
   exact ⟨by first | rfl | (simp [errW_none, errW_some] <;> rfl) | (simp [*, errW_none, errW_some] <;> rfl), by repeat (first | (with_reducible first | exact HB.out | apply below_alloc | apply pw_below_drewN | apply below_drew1 | refine below_set ?_ GE105.out) | exact HB.out)⟩
 ·rw [if_neg c2] at H
  have c2b0 : (a0_0 == 1) = false := beq_eq_false_iff_ne.mpr c2
  have c2b1 : (a0_0 != 1) = true := bne_iff_ne.mpr c2
  have HC12 := Aside0.mk H
  clear H
  go_enter Tryd.func17, Tryd.ntmps17
  go_upto_if 16 with (first | ((with_reducible refine gate_dst (N := 1) rfl ?_); (try (refine gate_guard (by rfl) ?_; dsimp only)); refine box_event ?hg (N := 1) ?hd (cs := #[.int .u8 a0_0, .string a0_1, .slice A0_2 l0_2.length c0_2]) (t := 27) ?hr ?_; (case hd => rfl); (case hg => rfl); (case hr => first | (go_simp; done) | (go_simp; rfl)); intro gb105 hg w13 hbox hb; have n0_ := Aside0.mk (below_step (by repeat (first | (with_reducible first | exact HB.out | apply below_alloc | apply pw_below_drewN | apply below_drew1) | exact HB.out)) hb); have n1_ := Aside0.mk (hbox); have n2_ := Aside0.mk ((by rw [hg]; exact (below_size (by repeat (first | (with_reducible first | exact HB.out | apply below_alloc | apply pw_below_drewN | apply below_drew1) | exact HB.out))) : w.heap.size ≤ gb105)); have n3_ := Aside0.mk ((by rw [hg]; exact (below_size (by repeat (first | (with_reducible first | exact HB.out | apply below_alloc | apply pw_below_drewN | apply below_drew1) | exact HB.out))) : w.heap.size ≤ gb105)); clear HB; have HB := n0_; have BK105 := n1_; have GW105 := n2_; have GE105 := n3_; clear n0_ n1_ n2_ n3_; clear hb hbox hg; have hcz14_0 : w13.cell? ⟨gb105, 0, none⟩ = some (.int .u8 a0_0) := (blk_cell BK105.out 0).trans rfl; have hcz14_1 : w13.cell? ⟨gb105, 1, none⟩ = some (.string a0_1) := (blk_cell BK105.out 1).trans rfl; have hcz14_2 : w13.cell? ⟨gb105, 2, none⟩ = some (.slice A0_2 l0_2.length c0_2) := (blk_cell BK105.out 2).trans rfl; have hfz14_0 := blk_frozen BK105.out 0; have hfz14_1 := blk_frozen BK105.out 1; have hfz14_2 := blk_frozen BK105.out 2))
  (try simp only [Act.put, List.setIfInBounds_toArray, List.set_cons_zero, List.set_cons_succ])
  go_cut [16] (fun v16 wc => ∃ (kq : Nat) (x16_11 : Bool), v16 = .bool x16_11 ∧ Aside0 (cmd_May.j0 kq a0_0 x16_11 a0_0 a0_1 l0_2 = some r) ∧ Aside0 (kq ≤ k) ∧ Aside0 (wc.heap[gb105]? = some (.cells #[.int .u8 a0_0, .string a0_1, (.slice A0_2 l0_2.length c0_2)] 27 (0, 0))) ∧ Aside0 (Below w.heap.size w wc))
  case first =>
   have H := HC12.out
   clear HC12
   by_cases c15 : a0_0 = 2
   ·rw [if_pos c15] at H
    have c15b0 : (a0_0 == 2) = true := beq_iff_eq.mpr c15
    have c15b1 : (a0_0 != 2) = false := bne_eq_false_iff_eq.mpr c15
    clear c15
    (first | rw [c15b0] | (simp only [i64_w, i32_w]; rw [c15b0]) | skip)
    have H' := Aside0.mk H
    clear H
    go_wp2
    go_meet
    case rel => exact ⟨_, ((a0_0 == 2)), (by first | rfl | (simp; done) | (simp [*]; done)), H', ⟨by first | omega | exact Nat.le_refl _⟩, ⟨by (with_reducible repeat (first | refine blk_drewN ?_ _ | refine blk_drew ?_ | refine blk_alloc ?_ _)); exact BK105.out⟩, ⟨by repeat (first | (with_reducible first | exact HB.out | apply below_alloc | apply pw_below_drewN | apply below_drew1 | refine below_set ?_ GE105.out) | exact HB.out)⟩⟩
   ·rw [if_neg c15] at H
    have c15b0 : (a0_0 == 2) = false := beq_eq_false_iff_ne.mpr c15
    have c15b1 : (a0_0 != 2) = true := bne_iff_ne.mpr c15
    (first | rw [c15b0] | (simp only [i64_w, i32_w]; rw [c15b0]) | skip)
    by_cases c16 : a0_0 = 5
    ·rw [if_pos c16] at H
     have c16b0 : (a0_0 == 5) = true := beq_iff_eq.mpr c16
     have c16b1 : (a0_0 != 5) = false := bne_eq_false_iff_eq.mpr c16
     clear c16
     have H' := Aside0.mk H
     clear H
     go_wp2
     go_meet
     case rel => exact ⟨_, ((a0_0 == 5)), (by first | rfl | (simp; done) | (simp [*]; done)), H', ⟨by first | omega | exact Nat.le_refl _⟩, ⟨by (with_reducible repeat (first | refine blk_drewN ?_ _ | refine blk_drew ?_ | refine blk_alloc ?_ _)); exact BK105.out⟩, ⟨by repeat (first | (with_reducible first | exact HB.out | apply below_alloc | apply pw_below_drewN | apply below_drew1 | refine below_set ?_ GE105.out) | exact HB.out)⟩⟩
    ·rw [if_neg c16] at H
     have c16b0 : (a0_0 == 5) = false := beq_eq_false_iff_ne.mpr c16
     have c16b1 : (a0_0 != 5) = true := bne_iff_ne.mpr c16
     have H' := Aside0.mk H
     clear H
     go_wp2
     go_meet
     case rel => exact ⟨_, ((a0_0 == 6)), (by first | rfl | (simp; done) | (simp [*]; done)), H', ⟨by first | omega | exact Nat.le_refl _⟩, ⟨by (with_reducible repeat (first | refine blk_drewN ?_ _ | refine blk_drew ?_ | refine blk_alloc ?_ _)); exact BK105.out⟩, ⟨by repeat (first | (with_reducible first | exact HB.out | apply below_alloc | apply pw_below_drewN | apply below_drew1 | refine below_set ?_ GE105.out) | exact HB.out)⟩⟩
  case rest =>
   clear HC12
   try clear c1
   try clear c2
   try clear c2b0
   try clear c2b1
   try clear p2
   try clear c3
   try clear c4
   try clear c15
   try clear c15b0
   try clear c15b1
   try clear c16
   try clear c16b0
   try clear c16b1
   try clear hcz10_0
   try clear hcz10_1
   try clear hcz10_2
   try clear hcz14_0
   try clear hcz14_1
   try clear hcz14_2
   try clear hcz6_0
   try clear hcz6_1
   try clear hcz6_2
   try clear hcz8_0
   try clear hcz8_1
   try clear hcz8_2
   try clear hfz10_0
   try clear hfz10_1
   try clear hfz10_2
   try clear hfz14_0
   try clear hfz14_1
   try clear hfz14_2
   try clear hfz6_0
   try clear hfz6_1
   try clear hfz6_2
   try clear hfz8_0
   try clear hfz8_1
   try clear hfz8_2
   obtain ⟨kq, x16_11, rfl, HA, HJ11, BK105, HB⟩ := hcut
   cases kq with
   | zero => exact absurd HA.out (by simp [cmd_May.j0])
   | succ kj11 =>
    have H := HA.out
    clear HA
    simp only [cmd_May.j0] at H
    by_cases c17 : x16_11 = true
    ·subst c17
     have H1 : (if a0_1.toList = ([] : List UInt8) then (some ((l0_2.length : Int) == 0)) else (some false)) = some r := by rw [if_pos rfl] at H; exact H
     clear H
     have H := H1
     clear H1
     by_cases c18 : a0_1.toList = ([] : List UInt8)
     ·rw [if_pos c18] at H
      have c18b0 : (a0_1.toList == ([] : List UInt8)) = true := beq_iff_eq.mpr c18
      have c18b1 : (a0_1.toList != ([] : List UInt8)) = false := bne_eq_false_iff_eq.mpr c18
      clear c18
      obtain rfl := Option.some.inj H
      have hcz19_0 : wc.cell? ⟨gb105, 0, none⟩ = some (.int .u8 a0_0) := (blk_cell BK105.out 0).trans rfl
      have hcz19_1 : wc.cell? ⟨gb105, 1, none⟩ = some (.string a0_1) := (blk_cell BK105.out 1).trans rfl
      have hcz19_2 : wc.cell? ⟨gb105, 2, none⟩ = some (.slice A0_2 l0_2.length c0_2) := (blk_cell BK105.out 2).trans rfl
      have hfz19_0 := blk_frozen BK105.out 0
      have hfz19_1 := blk_frozen BK105.out 1
      have hfz19_2 := blk_frozen BK105.out 2
      go_wp2
      go_ret
      exact ⟨by first | rfl | (simp [errW_none, errW_some] <;> rfl) | (simp [*, errW_none, errW_some] <;> rfl), by repeat (first | (with_reducible first | exact HB.out | apply below_alloc | apply pw_below_drewN | apply below_drew1 | refine below_set ?_ GE105.out) | exact HB.out)⟩
     ·rw [if_neg c18] at H
      have c18b0 : (a0_1.toList == ([] : List UInt8)) = false := beq_eq_false_iff_ne.mpr c18
      have c18b1 : (a0_1.toList != ([] : List UInt8)) = true := bne_iff_ne.mpr c18
      obtain rfl := Option.some.inj H
      have hcz20_0 : wc.cell? ⟨gb105, 0, none⟩ = some (.int .u8 a0_0) := (blk_cell BK105.out 0).trans rfl
      have hcz20_1 : wc.cell? ⟨gb105, 1, none⟩ = some (.string a0_1) := (blk_cell BK105.out 1).trans rfl
      have hcz20_2 : wc.cell? ⟨gb105, 2, none⟩ = some (.slice A0_2 l0_2.length c0_2) := (blk_cell BK105.out 2).trans rfl
      have hfz20_0 := blk_frozen BK105.out 0
      have hfz20_1 := blk_frozen BK105.out 1
      have hfz20_2 := blk_frozen BK105.out 2
      go_wp2
      go_ret
      exact ⟨by first | rfl | (simp [errW_none, errW_some] <;> rfl) | (simp [*, errW_none, errW_some] <;> rfl), by repeat (first | (with_reducible first | exact HB.out | apply below_alloc | apply pw_below_drewN | apply below_drew1 | refine below_set ?_ GE105.out) | exact HB.out)⟩
    ·replace c17 := Bool.eq_false_iff.mpr c17
     subst c17
     have H1 : (if a0_0 = 3 then ((addr_Path.f a0_1).bind fun t107 => (if t107.toList = ([] : List UInt8) then (some false) else ((cmd_params.f l0_2).bind fun t108 => (some t108)))) else (if a0_0 = 4 then ((addr_May.f a0_1).bind fun t109 => (if t109 = true then ((cmd_params.f l0_2).bind fun t110 => (some t110)) else (some false))) else (some false))) = some r := by rw [if_neg (show ¬ (false = true) by decide)] at H; exact H
     clear H
     have H := H1
     clear H1
     by_cases c21 : a0_0 = 3
     ·rw [if_pos c21] at H
      have c21b0 : (a0_0 == 3) = true := beq_iff_eq.mpr c21
      have c21b1 : (a0_0 != 3) = false := bne_eq_false_iff_eq.mpr c21
      clear c21
      replace H := Option.bind_eq_some_iff.mp H
      obtain ⟨t107, A220, H⟩ := H
      replace H : (if t107.toList = ([] : List UInt8) then (some false) else ((cmd_params.f l0_2).bind fun t108 => (some t108))) = some r := H
      have A22 := Aside0.mk A220
      clear A220
      by_cases c23 : t107.toList = ([] : List UInt8)
      ·rw [if_pos c23] at H
       have c23b0 : (t107.toList == ([] : List UInt8)) = true := beq_iff_eq.mpr c23
       have c23b1 : (t107.toList != ([] : List UInt8)) = false := bne_eq_false_iff_eq.mpr c23
       clear c23
       obtain rfl := Option.some.inj H
       have hcz24_0 : wc.cell? ⟨gb105, 0, none⟩ = some (.int .u8 a0_0) := (blk_cell BK105.out 0).trans rfl
       have hcz24_1 : wc.cell? ⟨gb105, 1, none⟩ = some (.string a0_1) := (blk_cell BK105.out 1).trans rfl
       have hcz24_2 : wc.cell? ⟨gb105, 2, none⟩ = some (.slice A0_2 l0_2.length c0_2) := (blk_cell BK105.out 2).trans rfl
       have hfz24_0 := blk_frozen BK105.out 0
       have hfz24_1 := blk_frozen BK105.out 1
       have hfz24_2 := blk_frozen BK105.out 2
       go_wp2_with (first | ((with_reducible refine gate_callee (f := 27) rfl ?_); refine goesL_ (some 33) rfl rfl Tryd.func27 (by kernel_rfl) rfl #[.string a0_1] rfl (by (try simp only [List.map_toArray, List.map_cons, List.map_nil]); first | done | rfl | (simp only [List.length_drop, List.length_take]; rfl)) ?_; (with_reducible refine (addr_Path.calls a0_1 t107 _ A22.out).mono ?_); rintro e w25 ⟨rfl, hb⟩; refine ⟨_, rfl, ?_⟩; have n0_ := Aside0.mk (blk_below (g := gb105) (o := .cells #[.int .u8 a0_0, .string a0_1, .slice A0_2 l0_2.length c0_2] 27 (0, 0)) (by (with_reducible repeat (first | refine blk_drewN ?_ _ | refine blk_drew ?_ | refine blk_alloc ?_ _)); exact BK105.out) hb); have n1_ := Aside0.mk (below_step (by repeat (first | (with_reducible first | exact HB.out | apply below_alloc | apply pw_below_drewN | apply below_drew1 | refine below_set ?_ GE105.out) | exact HB.out)) hb); clear BK105; clear HB; have BK105 := n0_; have HB := n1_; clear n0_ n1_; (try clear hb); (try clear hb2); (try clear hk); (try clear hi)))
       go_ret
       exact ⟨by first | rfl | (simp [errW_none, errW_some] <;> rfl) | (simp [*, errW_none, errW_some] <;> rfl), by repeat (first | (with_reducible first | exact HB.out | apply below_alloc | apply pw_below_drewN | apply below_drew1 | refine below_set ?_ GE105.out) | exact HB.out)⟩
      ·rw [if_neg c23] at H
       have c23b0 : (t107.toList == ([] : List UInt8)) = false := beq_eq_false_iff_ne.mpr c23
       have c23b1 : (t107.toList != ([] : List UInt8)) = true := bne_iff_ne.mpr c23
       replace H := Option.bind_eq_some_iff.mp H
       obtain ⟨t108, A260, H⟩ := H
       replace H : (some t108) = some r := H
       have A26 := Aside0.mk A260
       clear A260
       obtain rfl := Option.some.inj H
       have hcz27_0 : wc.cell? ⟨gb105, 0, none⟩ = some (.int .u8 a0_0) := (blk_cell BK105.out 0).trans rfl
       have hcz27_1 : wc.cell? ⟨gb105, 1, none⟩ = some (.string a0_1) := (blk_cell BK105.out 1).trans rfl
       have hcz27_2 : wc.cell? ⟨gb105, 2, none⟩ = some (.slice A0_2 l0_2.length c0_2) := (blk_cell BK105.out 2).trans rfl
       have hfz27_0 := blk_frozen BK105.out 0
       have hfz27_1 := blk_frozen BK105.out 1
       have hfz27_2 := blk_frozen BK105.out 2
       go_wp2_with (first | ((with_reducible refine gate_callee (f := 27) rfl ?_); refine goesL_ (some 33) rfl rfl Tryd.func27 (by kernel_rfl) rfl #[.string a0_1] rfl (by (try simp only [List.map_toArray, List.map_cons, List.map_nil]); first | done | rfl | (simp only [List.length_drop, List.length_take]; rfl)) ?_; (with_reducible refine (addr_Path.calls a0_1 t107 _ A22.out).mono ?_); rintro e w28 ⟨rfl, hb⟩; refine ⟨_, rfl, ?_⟩; have n0_ := Aside0.mk (blk_below (g := gb105) (o := .cells #[.int .u8 a0_0, .string a0_1, .slice A0_2 l0_2.length c0_2] 27 (0, 0)) (by (with_reducible repeat (first | refine blk_drewN ?_ _ | refine blk_drew ?_ | refine blk_alloc ?_ _)); exact BK105.out) hb); have n1_ := Aside0.mk (below_step (by repeat (first | (with_reducible first | exact HB.out | apply below_alloc | apply pw_below_drewN | apply below_drew1 | refine below_set ?_ GE105.out) | exact HB.out)) hb); clear BK105; clear HB; have BK105 := n0_; have HB := n1_; clear n0_ n1_; (try clear hb); (try clear hb2); (try clear hk); (try clear hi); have hcz29_0 : w28.cell? ⟨gb105, 0, none⟩ = some (.int .u8 a0_0) := (blk_cell BK105.out 0).trans rfl; have hcz29_1 : w28.cell? ⟨gb105, 1, none⟩ = some (.string a0_1) := (blk_cell BK105.out 1).trans rfl; have hcz29_2 : w28.cell? ⟨gb105, 2, none⟩ = some (.slice A0_2 l0_2.length c0_2) := (blk_cell BK105.out 2).trans rfl; have hfz29_0 := blk_frozen BK105.out 0; have hfz29_1 := blk_frozen BK105.out 1; have hfz29_2 := blk_frozen BK105.out 2) | (go_at_call 35; (with_reducible refine (cmd_params.calls _ _ l0_2 t108 _ ?side1 ?side2 A26.out).mono ?_); (case side1 => repeat (first | exact (Kd.C_below HR0_2.out HB.out) | (with_reducible refine Kd.C_alloc ?_ _) | (with_reducible refine Kd.C_drewN ?_ _) | (with_reducible refine Kd.C_drew ?_))); (case side2 => exact HC0_2.out); rintro e w30 ⟨rfl, hb⟩; have n0_ := Aside0.mk (blk_below (g := gb105) (o := .cells #[.int .u8 a0_0, .string a0_1, .slice A0_2 l0_2.length c0_2] 27 (0, 0)) (by (with_reducible repeat (first | refine blk_drewN ?_ _ | refine blk_drew ?_ | refine blk_alloc ?_ _)); exact BK105.out) hb); have n1_ := Aside0.mk (below_step (by repeat (first | (with_reducible first | exact HB.out | apply below_alloc | apply pw_below_drewN | apply below_drew1 | refine below_set ?_ GE105.out) | exact HB.out)) hb); clear BK105; clear HB; have BK105 := n0_; have HB := n1_; clear n0_ n1_; (try clear hb); (try clear hb2); (try clear hk); (try clear hi)))
       go_ret
       exact ⟨by first | rfl | (simp [errW_none, errW_some] <;> rfl) | (simp [*, errW_none, errW_some] <;> rfl), by repeat (first | (with_reducible first | exact HB.out | apply below_alloc | apply pw_below_drewN | apply below_drew1 | refine below_set ?_ GE105.out) | exact HB.out)⟩
     ·rw [if_neg c21] at H
      have c21b0 : (a0_0 == 3) = false := beq_eq_false_iff_ne.mpr c21
      have c21b1 : (a0_0 != 3) = true := bne_iff_ne.mpr c21
      by_cases c31 : a0_0 = 4
      ·rw [if_pos c31] at H
       have c31b0 : (a0_0 == 4) = true := beq_iff_eq.mpr c31
       have c31b1 : (a0_0 != 4) = false := bne_eq_false_iff_eq.mpr c31
       clear c31
       replace H := Option.bind_eq_some_iff.mp H
       obtain ⟨t109, A320, H⟩ := H
       replace H : (if t109 = true then ((cmd_params.f l0_2).bind fun t110 => (some t110)) else (some false)) = some r := H
       have A32 := Aside0.mk A320
       clear A320
       by_cases c33 : t109 = true
       ·subst c33
        have H1 : ((cmd_params.f l0_2).bind fun t110 => (some t110)) = some r := by rw [if_pos rfl] at H; exact H
        clear H
        have H := H1
        clear H1
        replace H := Option.bind_eq_some_iff.mp H
        obtain ⟨t110, A340, H⟩ := H
        replace H : (some t110) = some r := H
        have A34 := Aside0.mk A340
        clear A340
        obtain rfl := Option.some.inj H
        have hcz35_0 : wc.cell? ⟨gb105, 0, none⟩ = some (.int .u8 a0_0) := (blk_cell BK105.out 0).trans rfl
        have hcz35_1 : wc.cell? ⟨gb105, 1, none⟩ = some (.string a0_1) := (blk_cell BK105.out 1).trans rfl
        have hcz35_2 : wc.cell? ⟨gb105, 2, none⟩ = some (.slice A0_2 l0_2.length c0_2) := (blk_cell BK105.out 2).trans rfl
        have hfz35_0 := blk_frozen BK105.out 0
        have hfz35_1 := blk_frozen BK105.out 1
        have hfz35_2 := blk_frozen BK105.out 2
        go_wp2_with (first | ((with_reducible refine gate_callee (f := 36) rfl ?_); refine goesL_ (some 44) rfl rfl Tryd.func36 (by kernel_rfl) rfl #[.string a0_1] rfl (by (try simp only [List.map_toArray, List.map_cons, List.map_nil]); first | done | rfl | (simp only [List.length_drop, List.length_take]; rfl)) ?_; (with_reducible refine (addr_May.calls a0_1 true _ A32.out).mono ?_); rintro e w36 ⟨rfl, hb⟩; refine ⟨_, rfl, ?_⟩; have n0_ := Aside0.mk (blk_below (g := gb105) (o := .cells #[.int .u8 a0_0, .string a0_1, .slice A0_2 l0_2.length c0_2] 27 (0, 0)) (by (with_reducible repeat (first | refine blk_drewN ?_ _ | refine blk_drew ?_ | refine blk_alloc ?_ _)); exact BK105.out) hb); have n1_ := Aside0.mk (below_step (by repeat (first | (with_reducible first | exact HB.out | apply below_alloc | apply pw_below_drewN | apply below_drew1 | refine below_set ?_ GE105.out) | exact HB.out)) hb); clear BK105; clear HB; have BK105 := n0_; have HB := n1_; clear n0_ n1_; (try clear hb); (try clear hb2); (try clear hk); (try clear hi); have hcz37_0 : w36.cell? ⟨gb105, 0, none⟩ = some (.int .u8 a0_0) := (blk_cell BK105.out 0).trans rfl; have hcz37_1 : w36.cell? ⟨gb105, 1, none⟩ = some (.string a0_1) := (blk_cell BK105.out 1).trans rfl; have hcz37_2 : w36.cell? ⟨gb105, 2, none⟩ = some (.slice A0_2 l0_2.length c0_2) := (blk_cell BK105.out 2).trans rfl; have hfz37_0 := blk_frozen BK105.out 0; have hfz37_1 := blk_frozen BK105.out 1; have hfz37_2 := blk_frozen BK105.out 2) | (go_at_call 35; (with_reducible refine (cmd_params.calls _ _ l0_2 t110 _ ?side1 ?side2 A34.out).mono ?_); (case side1 => repeat (first | exact (Kd.C_below HR0_2.out HB.out) | (with_reducible refine Kd.C_alloc ?_ _) | (with_reducible refine Kd.C_drewN ?_ _) | (with_reducible refine Kd.C_drew ?_))); (case side2 => exact HC0_2.out); rintro e w38 ⟨rfl, hb⟩; have n0_ := Aside0.mk (blk_below (g := gb105) (o := .cells #[.int .u8 a0_0, .string a0_1, .slice A0_2 l0_2.length c0_2] 27 (0, 0)) (by (with_reducible repeat (first | refine blk_drewN ?_ _ | refine blk_drew ?_ | refine blk_alloc ?_ _)); exact BK105.out) hb); have n1_ := Aside0.mk (below_step (by repeat (first | (with_reducible first | exact HB.out | apply below_alloc | apply pw_below_drewN | apply below_drew1 | refine below_set ?_ GE105.out) | exact HB.out)) hb); clear BK105; clear HB; have BK105 := n0_; have HB := n1_; clear n0_ n1_; (try clear hb); (try clear hb2); (try clear hk); (try clear hi)))
        go_ret
        exact ⟨by first | rfl | (simp [errW_none, errW_some] <;> rfl) | (simp [*, errW_none, errW_some] <;> rfl), by repeat (first | (with_reducible first | exact HB.out | apply below_alloc | apply pw_below_drewN | apply below_drew1 | refine below_set ?_ GE105.out) | exact HB.out)⟩
       ·replace c33 := Bool.eq_false_iff.mpr c33
        subst c33
        have H1 : (some false) = some r := by rw [if_neg (show ¬ (false = true) by decide)] at H; exact H
        clear H
        have H := H1
        clear H1
        obtain rfl := Option.some.inj H
        have hcz39_0 : wc.cell? ⟨gb105, 0, none⟩ = some (.int .u8 a0_0) := (blk_cell BK105.out 0).trans rfl
        have hcz39_1 : wc.cell? ⟨gb105, 1, none⟩ = some (.string a0_1) := (blk_cell BK105.out 1).trans rfl
        have hcz39_2 : wc.cell? ⟨gb105, 2, none⟩ = some (.slice A0_2 l0_2.length c0_2) := (blk_cell BK105.out 2).trans rfl
        have hfz39_0 := blk_frozen BK105.out 0
        have hfz39_1 := blk_frozen BK105.out 1
        have hfz39_2 := blk_frozen BK105.out 2
        go_wp2_with (first | ((with_reducible refine gate_callee (f := 36) rfl ?_); refine goesL_ (some 44) rfl rfl Tryd.func36 (by kernel_rfl) rfl #[.string a0_1] rfl (by (try simp only [List.map_toArray, List.map_cons, List.map_nil]); first | done | rfl | (simp only [List.length_drop, List.length_take]; rfl)) ?_; (with_reducible refine (addr_May.calls a0_1 false _ A32.out).mono ?_); rintro e w40 ⟨rfl, hb⟩; refine ⟨_, rfl, ?_⟩; have n0_ := Aside0.mk (blk_below (g := gb105) (o := .cells #[.int .u8 a0_0, .string a0_1, .slice A0_2 l0_2.length c0_2] 27 (0, 0)) (by (with_reducible repeat (first | refine blk_drewN ?_ _ | refine blk_drew ?_ | refine blk_alloc ?_ _)); exact BK105.out) hb); have n1_ := Aside0.mk (below_step (by repeat (first | (with_reducible first | exact HB.out | apply below_alloc | apply pw_below_drewN | apply below_drew1 | refine below_set ?_ GE105.out) | exact HB.out)) hb); clear BK105; clear HB; have BK105 := n0_; have HB := n1_; clear n0_ n1_; (try clear hb); (try clear hb2); (try clear hk); (try clear hi)))
        go_ret
        exact ⟨by first | rfl | (simp [errW_none, errW_some] <;> rfl) | (simp [*, errW_none, errW_some] <;> rfl), by repeat (first | (with_reducible first | exact HB.out | apply below_alloc | apply pw_below_drewN | apply below_drew1 | refine below_set ?_ GE105.out) | exact HB.out)⟩
      ·rw [if_neg c31] at H
       have c31b0 : (a0_0 == 4) = false := beq_eq_false_iff_ne.mpr c31
       have c31b1 : (a0_0 != 4) = true := bne_iff_ne.mpr c31
       obtain rfl := Option.some.inj H
       go_wp2
       go_ret
       exact ⟨by first | rfl | (simp [errW_none, errW_some] <;> rfl) | (simp [*, errW_none, errW_some] <;> rfl), by repeat (first | (with_reducible first | exact HB.out | apply below_alloc | apply pw_below_drewN | apply below_drew1 | refine below_set ?_ GE105.out) | exact HB.out)⟩
end Go.Proofs.YtljkopbalejcgaaDoor.P
end
section
set_option linter.unusedVariables false
set_option linter.unusedSimpArgs false
namespace Go.Proofs.YtljkopbalejcgaaDoor.P
open Go Go.RowKit Go.Lib Go.Proofs.YtljkopbalejcgaaDoorW.PrintWords
theorem addrMay_eq (a : ByteArray) (ha : a.size ≤ 1000000) : addr_May.f a = some (addrParse a.data.toList).isSome := by
 unfold addr_May.f addr_Parse.f
 rw [if_pos (by omega)]
 simp only [Option.bind_some]
 cases addrParse a.data.toList <;> rfl
theorem addrPath_eq (a : ByteArray) (ha : a.size ≤ 1000000) : addr_Path.f a = some (if a.data.toList = [] ∨ (addrParse a.data.toList).isSome = true then ((⟨#[60]⟩ : ByteArray) ++ a) ++ (⟨#[62]⟩ : ByteArray) else ⟨#[]⟩) := by
 have h1 : ((⟨#[60]⟩ : ByteArray) ++ a).size = 1 + a.size := by rw [ByteArray.size_append]; rfl
 unfold addr_Path.f
 rw [Lib.toList_data, addrMay_eq a ha]
 simp only [Option.bind_some]
 by_cases h : a.data.toList = []
 ·rw [if_pos h, if_pos (by omega), if_pos (by rw [h1]; omega), if_pos (.inl h)]
 ·rw [if_neg h]
  cases hq : (addrParse a.data.toList).isSome with
  | true => rw [if_pos rfl, if_pos (by omega), if_pos (by rw [h1]; omega), if_pos (.inr rfl)]
  | false => rw [if_neg (by simp), if_neg (by rintro (h' | h'); exact h h'; cases h')]
theorem path_ne (a : ByteArray) : ¬ (((⟨#[60]⟩ : ByteArray) ++ a) ++ (⟨#[62]⟩ : ByteArray)).toList = [] := by
 rw [Lib.toList_data]
 intro h
 have := congrArg List.length h
 rw [len_eq, ByteArray.size_append, show (⟨#[62]⟩ : ByteArray).size = 1 from rfl, List.length_nil] at this
 omega
theorem cmdMay_4 (k : Nat) (a : ByteArray) (ha : a.size ≤ 1000000) (l : List S49) (r : Bool) (hp : cmd_params.f l = some r) : cmd_May.f (k + 1) 4 a l = some ((addrParse a.data.toList).isSome && r) := by
 unfold cmd_May.f
 rw [if_neg (by omega), if_neg (by omega), if_neg (by omega)]
 simp only [cmd_May.j0]
 rw [addrMay_eq a ha, hp]
 cases (addrParse a.data.toList).isSome <;> simp
theorem cmdMay_3 (k : Nat) (a : ByteArray) (ha : a.size ≤ 1000000) (l : List S49) (r : Bool) (hp : cmd_params.f l = some r) : cmd_May.f (k + 1) 3 a l = some ((decide (a.data.toList = []) || (addrParse a.data.toList).isSome) && r) := by
 unfold cmd_May.f
 rw [if_neg (by omega), if_neg (by omega), if_neg (by omega)]
 simp only [cmd_May.j0]
 rw [addrPath_eq a ha, hp]
 simp only [Option.bind_some]
 by_cases h : a.data.toList = [] ∨ (addrParse a.data.toList).isSome = true
 ·have e : (decide (a.data.toList = []) || (addrParse a.data.toList).isSome) = true := by rw [Bool.or_eq_true, decide_eq_true_eq]; exact h
  rw [if_pos h, e]
  simp [path_ne a]
 ·have e : (decide (a.data.toList = []) || (addrParse a.data.toList).isSome) = false := by
   rw [Bool.eq_false_iff]; intro h'; rw [Bool.or_eq_true, decide_eq_true_eq] at h'; exact h h'
  rw [if_neg h, e]
  have e0 : (⟨#[]⟩ : ByteArray).toList = [] := by rw [Lib.toList_data]
  simp [e0]
end Go.Proofs.YtljkopbalejcgaaDoor.P
end
