/- Small general lemmas on memory. -/
import Derived.WalkKit
import Derived.WalkSpells
import Derived.Deep.QuietTactic
import Derived.Deep.LoopGhost
import Derived.BigQuiet
import Derived.WalkLawsBesides
namespace Go.Proofs.YtoleonldkifcbaaGreatDoor
open Go.RowKit

/-- Of the blocks that were there in w, all but those of the list are in w' as they were; nothing else that is told of a world has turned, but for the count of draws. -/
structure Kept (bs : List Nat) (w w' : World) : Prop where
  os : w'.os = w.os
  tape : w'.tape = w.tape
  output : w'.output = w.output
  size : w.heap.size ≤ w'.heap.size
  block : ∀ k, k < w.heap.size → k ∉ bs → w'.heap[k]? = w.heap[k]?

theorem Kept.refl (bs : List Nat) (w : World) : Kept bs w w := ⟨rfl, rfl, rfl, Nat.le_refl _, fun _ _ _ => rfl⟩

theorem Kept.trans' {bs cs ds : List Nat} {a b c : World} (h : Kept bs a b) (k : Kept cs b c) (hb : ∀ x, x ∈ bs → x < a.heap.size → x ∈ ds) (hc : ∀ x, x ∈ cs → x < a.heap.size → x ∈ ds) : Kept ds a c :=
  ⟨k.os.trans h.os, k.tape.trans h.tape, k.output.trans h.output, Nat.le_trans h.size k.size, fun i hi hn => by
    have h1 : i ∉ bs := fun e => hn (hb i e hi)
    have h2 : i ∉ cs := fun e => hn (hc i e hi)
    rw [k.block i (Nat.lt_of_lt_of_le hi h.size) h2, h.block i hi h1]⟩

theorem Kept.trans {bs : List Nat} {a b c : World} (h : Kept bs a b) (k : Kept bs b c) : Kept bs a c := h.trans' k (fun _ e _ => e) (fun _ e _ => e)

theorem Kept.mono {bs cs : List Nat} {a b : World} (h : Kept bs a b) (hs : ∀ x, x ∈ bs → x < a.heap.size → x ∈ cs) : Kept cs a b :=
  ⟨h.os, h.tape, h.output, h.size, fun i hi hn => h.block i hi fun e => hn (hs i e hi)⟩

theorem Kept.nil {bs : List Nat} {a b : World} (h : Kept [] a b) : Kept bs a b := h.mono (by simp)

theorem Kept.drew {bs : List Nat} {a w : World} (h : Kept bs a w) : Kept bs a w.drew := ⟨h.os, h.tape, h.output, h.size, h.block⟩

theorem Kept.drewN {bs : List Nat} {a w : World} (h : Kept bs a w) (n : Nat) : Kept bs a (w.drewN n) := ⟨h.os, h.tape, h.output, h.size, h.block⟩

theorem Kept.alloc {bs : List Nat} {a w : World} (h : Kept bs a w) (o : Obj) : Kept bs a (w.alloc o) :=
  h.trans ⟨rfl, rfl, rfl, by simp, fun k hk _ => Below.heap_alloc _ _ _ (by omega)⟩

/-- A store into a listed block, or into a new one. -/
theorem Kept.setCell {bs : List Nat} {a w : World} (h : Kept bs a w) (p : Addr) (u : Value) (hp : p.block < a.heap.size → p.block ∈ bs) : Kept bs a (w.setCell p u) :=
  h.trans' (cs := [p.block]) ⟨rfl, rfl, rfl, by simp [World.setCell], fun k _ hn => Below.heap_setCell _ _ _ _ (by simpa using hn)⟩ (fun _ e _ => e) (fun x e hx => by
    have : x = p.block := by simpa using e
    subst this; exact hp hx)

theorem Kept.grown {bs : List Nat} {a w w' : World} {row : Option Nat} (h : Kept bs a w) (hg : w.grownBy w' row) (hr : ∀ k, row = some k → k < a.heap.size → k ∈ bs) : Kept bs a w' :=
  h.trans' (cs := row.toList) ⟨hg.os, hg.tape, hg.output, hg.size, fun k hk hn => hg.block k hk (fun e => hn (by simp [e]))⟩ (fun _ e _ => e) (fun x e hx => by
    refine hr x ?_ hx
    cases row with
    | none => simp at e
    | some r => simp at e; simp [e])

theorem Kept.own {bs : List Nat} {a w w' : World} {base : Nat} {e : TypeId} {size : Nat} {v : Value} {n : Nat} {xs : List Value} (h : Kept bs a w) (hown : w.ownsRow base e size v n xs) (hg : w.grownBy w' v.ownBlock) (hb : a.heap.size ≤ base) : Kept bs a w' :=
  h.grown hg fun k e hk => absurd (hown.lt k e).1 (by omega)

theorem Kept.below {w w' : World} (h : Kept [] w w') : Below w.heap.size w w' := ⟨h.os, h.tape, h.output, h.size, fun k hk => h.block k hk (by simp)⟩
theorem Kept.of_below {bs : List Nat} {w w' : World} (h : Below w.heap.size w w') : Kept bs w w' := ⟨h.os, h.tape, h.output, h.size, fun k hk _ => h.block k hk⟩

theorem Kept.cell {bs : List Nat} {w w' : World} (h : Kept bs w w') {p : Addr} (hp : p.block < w.heap.size) (hn : p.block ∉ bs) : w'.cell? p = w.cell? p := World.cell?_of_block (w := w) (h.block p.block hp hn)
theorem Kept.frozen {bs : List Nat} {w w' : World} (h : Kept bs w w') {p : Addr} (hp : p.block < w.heap.size) (hn : p.block ∉ bs) : w'.frozen? p = w.frozen? p := World.frozen?_of_block (w := w) (h.block p.block hp hn)

/-- The two rules by which a walk reads old memory behind a call that has kept all of it. -/
theorem Kept.rules {w w' : World} (h : Kept [] w w') : (∀ b o, b < w.heap.size → w'.cell? ⟨b, o, none⟩ = w.cell? ⟨b, o, none⟩) ∧ (∀ b o, b < w.heap.size → w'.frozen? ⟨b, o, none⟩ = w.frozen? ⟨b, o, none⟩) :=
  ⟨fun _ _ hb => h.cell hb (by simp), fun _ _ hb => h.frozen hb (by simp)⟩

theorem lt_of_cell {w : World} {a : Addr} {v : Value} (h : w.cell? a = some v) : a.block < w.heap.size := by
  unfold World.cell? at h
  rcases Nat.lt_or_ge a.block w.heap.size with h1 | h1
  · exact h1
  · rw [Array.getElem?_eq_none h1] at h; simp at h

theorem Kept.cell_some {bs : List Nat} {w w' : World} (h : Kept bs w w') {p : Addr} {v : Value} (hc : w.cell? p = some v) (hn : p.block ∉ bs) : w'.cell? p = some v := by
  rw [h.cell (lt_of_cell hc) hn, hc]

/-- A block of cells, known whole: its cells. -/
theorem cell_of_block {w : World} {b : Nat} {cs : Array Value} {t : TypeId} {f : Nat × Nat} (h : w.heap[b]? = some (.cells cs t f)) (i : Nat) : w.cell? ⟨b, i, none⟩ = cs[i]? := by
  simp [World.cell?, h]
theorem frozen_of_block {w : World} {b : Nat} {cs : Array Value} {t : TypeId} (h : w.heap[b]? = some (.cells cs t (0, 0))) (i : Nat) : w.frozen? ⟨b, i, none⟩ = false := by
  simp [World.frozen?, h]
theorem lt_of_block {w : World} {b : Nat} {o : Obj} (h : w.heap[b]? = some o) : b < w.heap.size := by
  rcases Nat.lt_or_ge b w.heap.size with h1 | h1
  · exact h1
  · rw [Array.getElem?_eq_none h1] at h; simp at h
theorem set_of_block {w : World} {b i : Nat} {cs : Array Value} {t : TypeId} {f : Nat × Nat} (h : w.heap[b]? = some (.cells cs t f)) (v : Value) : (w.setCell ⟨b, i, none⟩ v).heap[b]? = some (.cells (cs.setIfInBounds i v) t f) := by
  simp [World.setCell, Array.getElem?_modify, h]
theorem set_of_blockN {w : World} {b i n : Nat} {cs : Array Value} {t : TypeId} {f : Nat × Nat} (h : w.heap[b]? = some (.cells cs t f)) (v : Value) : ((w.drewN n).setCell ⟨b, i, none⟩ v).heap[b]? = some (.cells (cs.setIfInBounds i v) t f) := set_of_block (w := w.drewN n) h v
theorem new_block (w : World) (o : Obj) : (w.alloc o).heap[w.heap.size]? = some o := by
  show (w.heap.push o)[w.heap.size]? = some o
  simp

/-- A bound on lengths that is large for every use and small for every machine number. -/
def bigN : Nat := 1073741824
theorem bigN_le : bigN ≤ maxLen := by unfold bigN maxLen; omega

theorem hid {p : Prop} (h : p) : Hid p := h

theorem cell_new1 (w : World) (v : Value) (t : TypeId) : (w.alloc (.cells #[v] t)).cell? ⟨w.heap.size, 0, none⟩ = some v := by
  rw [cell_of_block (new_block w _)]; rfl
theorem le_alloc {n : Nat} {w : World} (h : n ≤ w.heap.size) (o : Obj) : n ≤ (w.alloc o).heap.size := by simp; omega

theorem ret_bool {a b : Bool} (h : a = b) : Ending.returned (.bool a) = .returned (.bool b) := by rw [h]
theorem ret_int {k : IntKind} {a b : Int} (h : a = b) : Ending.returned (.int k a) = .returned (.int k b) := by rw [h]
theorem ret_str {a b : ByteArray} (h : a = b) : Ending.returned (.string a) = .returned (.string b) := by rw [h]

theorem ret_sb {a a' : ByteArray} {b b' : Bool} (h : a = a') (h' : b = b') : Ending.returned (.tuple #[.string a, .bool b]) = .returned (.tuple #[.string a', .bool b']) := by rw [h, h']
theorem byte_at (s : ByteArray) (k : Nat) (h : k < s.size) : s[k] = s.data.toList[k]'(by simpa using h) := rfl
theorem byte_lt (x : UInt8) : (x.toNat : Int) < 256 := by have := x.toNat_lt; omega

end Go.Proofs.YtoleonldkifcbaaGreatDoor
namespace Go.Proofs.YtoleonldkifcbaaGreatDoor
open Go.RowKit

theorem alloc_block {w : World} {b : Nat} {x : Obj} (h : w.heap[b]? = some x) (o : Obj) : (w.alloc o).heap[b]? = some x := by
  rw [Below.heap_alloc _ _ _ (lt_of_block h)]; exact h

/-- A block that is not listed stands as it stood. -/
theorem Kept.same {bs : List Nat} {w w' : World} (h : Kept bs w w') {b : Nat} {x : Obj} (hb : w.heap[b]? = some x) (hn : b ∉ bs) : w'.heap[b]? = some x := by
  rw [h.block b (lt_of_block hb) hn, hb]

/-- Behind a call that has written one block: which is none of the old ones. -/
theorem Kept.new1 {w w' : World} {o : Obj} {b : Nat} (h : Kept [b] (w.alloc o) w') (hb : w.heap.size ≤ b) : Kept [] w w' :=
  ((Kept.refl [] w).alloc o).trans' h (by simp) (fun x hx hl => by simp at hx; omega)

theorem set_other {w : World} {b : Nat} {x : Obj} (h : w.heap[b]? = some x) (p : Addr) (u : Value) (hn : b ≠ p.block) : (w.setCell p u).heap[b]? = some x := by
  rw [Below.heap_setCell _ _ _ _ hn]; exact h

/-- Behind a call that has written one block of the caller's own. -/
theorem Kept.newB {a w w' : World} {b : Nat} (h : Kept [] a w) (k : Kept [b] w w') (hb : a.heap.size ≤ b) : Kept [] a w' :=
  h.trans' k (by simp) (fun x hx hl => by simp at hx; omega)

/-- The worlds part in the count of draws alone. -/
def Drew (w w' : World) : Prop := ∃ n, w' = w.drewN n
theorem Drew.refl (w : World) : Drew w w := ⟨0, rfl⟩
theorem Drew.more {w w' : World} (h : Drew w w') (n : Nat) : Drew w (w'.drewN n) := by
  obtain ⟨m, rfl⟩ := h; exact ⟨m + n, by rw [World.drewN_drewN]⟩
theorem Drew.kept {w w' : World} (h : Drew w w') : Kept [] w w' := by
  obtain ⟨m, rfl⟩ := h; exact (Kept.refl _ _).drewN _
theorem Drew.cell {w w' : World} (h : Drew w w') {a : Addr} {v : Value} (hc : w.cell? a = some v) : w'.cell? a = some v := by
  obtain ⟨m, rfl⟩ := h; exact hc

end Go.Proofs.YtoleonldkifcbaaGreatDoor
namespace Go.Proofs.YtoleonldkifcbaaGreatDoor
open Go.RowKit

theorem wrap_byte (x : UInt8) : wrap64 (x.toNat : Int) = x.toNat := by have := x.toNat_lt; unfold wrap64; omega
theorem wrap_bd (x : UInt8) : 0 ≤ wrap64 (x.toNat : Int) ∧ wrap64 (x.toNat : Int) < 256 := by rw [wrap_byte]; have := x.toNat_lt; omega
end Go.Proofs.YtoleonldkifcbaaGreatDoor
