/- The walks of keys: flags, keys in memory, leaves (impl). -/
import Derived.Test.YtoleonldkifcbaaGreatDoorKSb
import Derived.Deep.RegionHeld3
import Derived.Deep.Cut
namespace Go.Proofs.YtoleonldkifcbaaGreatDoor
open Go.RowKit

/-- The table of the flags' names. -/
def FlagsAt (w : World) : Prop :=
  w.cell? ⟨0, 0, none⟩ = some (.string ⟨#[83, 101, 101, 110]⟩) ∧ w.cell? ⟨0, 1, none⟩ = some (.string ⟨#[65, 110, 115, 119, 101, 114, 101, 100]⟩) ∧
  w.cell? ⟨0, 2, none⟩ = some (.string ⟨#[70, 108, 97, 103, 103, 101, 100]⟩) ∧ w.cell? ⟨0, 3, none⟩ = some (.string ⟨#[68, 101, 108, 101, 116, 101, 100]⟩) ∧
  w.cell? ⟨0, 4, none⟩ = some (.string ⟨#[68, 114, 97, 102, 116]⟩)
theorem FlagsAt.kept {w w' : World} {bs : List Nat} (h : FlagsAt w) (k : Kept bs w w') (hb : 0 ∉ bs) : FlagsAt w' :=
  ⟨k.cell_some h.1 hb, k.cell_some h.2.1 hb, k.cell_some h.2.2.1 hb, k.cell_some h.2.2.2.1 hb, k.cell_some h.2.2.2.2 hb⟩
theorem FlagsAt.kept0 {w w' : World} (h : FlagsAt w) (k : Kept [] w w') : FlagsAt w' := h.kept k (by simp)

theorem lower_any (l r : List UInt8) (w : World) (hl : l.length ≤ 100) (ha : ∀ b ∈ l, b.toNat < 128) (hr : Lib.toLowerA l = r) :
    Calls Tryz.prog 58 #[.string ⟨l.toArray⟩] w fun e w' => e = .returned (.string (bs r)) ∧ Kept [] w w' := by
  refine (Tryz.strings_ToLower_ascii ⟨l.toArray⟩ w (by show l.toArray.size ≤ _; simp; omega) (fun j b hj => ha b (by simpa using List.mem_of_getElem? hj))).mono ?_
  rintro e w' ⟨rfl, hB⟩
  refine ⟨ret_str ?_, Kept.of_below hB⟩
  subst hr
  simp [bs]

set_option maxRecDepth 100000 in
set_option maxHeartbeats 1000000 in
theorem keyFlagWord_any (n : Int) (w : World) (hF : FlagsAt w) : Calls Tryz.prog 38 #[.int .i64 n] w fun e w' => e = .returned (.string (bs (flT n))) ∧ Kept [] w w' := by
  obtain ⟨c0, c1, c2, c3, c4⟩ := hF
  have L0 := hid (fun W => lower_any [83, 101, 101, 110] tSeen W (by decide) (by decide) (by decide))
  have L1 := hid (fun W => lower_any [65, 110, 115, 119, 101, 114, 101, 100] tAnswered W (by decide) (by decide) (by decide))
  have L2 := hid (fun W => lower_any [70, 108, 97, 103, 103, 101, 100] tFlagged W (by decide) (by decide) (by decide))
  have L3 := hid (fun W => lower_any [68, 101, 108, 101, 116, 101, 100] tDeleted W (by decide) (by decide) (by decide))
  have L4 := hid (fun W => lower_any [68, 114, 97, 102, 116] tDraft W (by decide) (by decide) (by decide))
  have X0 : ∀ W, (Instr.index 92 (.agg #[.string ⟨#[83, 101, 101, 110]⟩, .string ⟨#[65, 110, 115, 119, 101, 114, 101, 100]⟩, .string ⟨#[70, 108, 97, 103, 103, 101, 100]⟩, .string ⟨#[68, 101, 108, 101, 116, 101, 100]⟩, .string ⟨#[68, 114, 97, 102, 116]⟩]) (.int .i64 0)).run Tryz.prog W = .ok (.string ⟨#[83, 101, 101, 110]⟩) W := fun _ => rfl
  have X1 : ∀ W, (Instr.index 92 (.agg #[.string ⟨#[83, 101, 101, 110]⟩, .string ⟨#[65, 110, 115, 119, 101, 114, 101, 100]⟩, .string ⟨#[70, 108, 97, 103, 103, 101, 100]⟩, .string ⟨#[68, 101, 108, 101, 116, 101, 100]⟩, .string ⟨#[68, 114, 97, 102, 116]⟩]) (.int .i64 1)).run Tryz.prog W = .ok (.string ⟨#[65, 110, 115, 119, 101, 114, 101, 100]⟩) W := fun _ => rfl
  have X2 : ∀ W, (Instr.index 92 (.agg #[.string ⟨#[83, 101, 101, 110]⟩, .string ⟨#[65, 110, 115, 119, 101, 114, 101, 100]⟩, .string ⟨#[70, 108, 97, 103, 103, 101, 100]⟩, .string ⟨#[68, 101, 108, 101, 116, 101, 100]⟩, .string ⟨#[68, 114, 97, 102, 116]⟩]) (.int .i64 2)).run Tryz.prog W = .ok (.string ⟨#[70, 108, 97, 103, 103, 101, 100]⟩) W := fun _ => rfl
  have X3 : ∀ W, (Instr.index 92 (.agg #[.string ⟨#[83, 101, 101, 110]⟩, .string ⟨#[65, 110, 115, 119, 101, 114, 101, 100]⟩, .string ⟨#[70, 108, 97, 103, 103, 101, 100]⟩, .string ⟨#[68, 101, 108, 101, 116, 101, 100]⟩, .string ⟨#[68, 114, 97, 102, 116]⟩]) (.int .i64 3)).run Tryz.prog W = .ok (.string ⟨#[68, 101, 108, 101, 116, 101, 100]⟩) W := fun _ => rfl
  have X4 : ∀ W, (Instr.index 92 (.agg #[.string ⟨#[83, 101, 101, 110]⟩, .string ⟨#[65, 110, 115, 119, 101, 114, 101, 100]⟩, .string ⟨#[70, 108, 97, 103, 103, 101, 100]⟩, .string ⟨#[68, 101, 108, 101, 116, 101, 100]⟩, .string ⟨#[68, 114, 97, 102, 116]⟩]) (.int .i64 4)).run Tryz.prog W = .ok (.string ⟨#[68, 114, 97, 102, 116]⟩) W := fun _ => rfl
  go_enter Tryz.func38, Tryz.ntmps38
  go_wp2
  go_loopg [6] 6 (fun m i wr => ∃ x : Int, i = .int .i64 x ∧ wr = w ∧ ((x = 0 ∧ m = 6 - 0 ∧ True) ∨ (x = 1 ∧ m = 6 - 1 ∧ n ≠ 1 ∧ True) ∨ (x = 2 ∧ m = 6 - 2 ∧ n ≠ 1 ∧ n ≠ 2 ∧ True) ∨ (x = 3 ∧ m = 6 - 3 ∧ n ≠ 1 ∧ n ≠ 2 ∧ n ≠ 4 ∧ True) ∨ (x = 4 ∧ m = 6 - 4 ∧ n ≠ 1 ∧ n ≠ 2 ∧ n ≠ 4 ∧ n ≠ 8 ∧ True) ∨ (x = 5 ∧ m = 6 - 5 ∧ n ≠ 1 ∧ n ≠ 2 ∧ n ≠ 4 ∧ n ≠ 8 ∧ n ≠ 16 ∧ True)))
  case atStart => exact ⟨0, rfl, rfl, .inl ⟨rfl, rfl, trivial⟩⟩
  case round =>
    obtain ⟨x, rfl, rfl, hx⟩ := hrel
    rcases hx with ⟨rfl, rfl, hn⟩ | ⟨rfl, rfl, hn⟩ | ⟨rfl, rfl, hn⟩ | ⟨rfl, rfl, hn⟩ | ⟨rfl, rfl, hn⟩ | ⟨rfl, rfl, hn⟩
    · have HN := hid hn
      clear hn
      by_cases h : n = 1
      · subst h
        go_wp2_with fail
        refine (L0.out _).mono ?_
        rintro e w1 ⟨rfl, hK⟩
        go_wp2
        go_ret
        exact ⟨rfl, hK⟩
      · have h' : (n == 1) = false := by simpa using h
        have HH := hid h
        clear h
        go_wp2
        go_roundg (6 - 1)
        case measure => decide
        case rel => exact ⟨1, by go_num, rfl, .inr (.inl ⟨rfl, rfl, HH.out, trivial⟩)⟩
    · have HN := hid hn
      clear hn
      by_cases h : n = 2
      · subst h
        go_wp2_with fail
        refine (L1.out _).mono ?_
        rintro e w1 ⟨rfl, hK⟩
        go_wp2
        go_ret
        exact ⟨rfl, hK⟩
      · have h' : (n == 2) = false := by simpa using h
        have HH := hid h
        clear h
        go_wp2
        go_roundg (6 - 2)
        case measure => decide
        case rel => exact ⟨2, by go_num, rfl, .inr (.inr (.inl ⟨rfl, rfl, HN.out.1, HH.out, trivial⟩))⟩
    · have HN := hid hn
      clear hn
      by_cases h : n = 4
      · subst h
        go_wp2_with fail
        refine (L2.out _).mono ?_
        rintro e w1 ⟨rfl, hK⟩
        go_wp2
        go_ret
        exact ⟨rfl, hK⟩
      · have h' : (n == 4) = false := by simpa using h
        have HH := hid h
        clear h
        go_wp2
        go_roundg (6 - 3)
        case measure => decide
        case rel => exact ⟨3, by go_num, rfl, .inr (.inr (.inr (.inl ⟨rfl, rfl, HN.out.1, HN.out.2.1, HH.out, trivial⟩)))⟩
    · have HN := hid hn
      clear hn
      by_cases h : n = 8
      · subst h
        go_wp2_with fail
        refine (L3.out _).mono ?_
        rintro e w1 ⟨rfl, hK⟩
        go_wp2
        go_ret
        exact ⟨rfl, hK⟩
      · have h' : (n == 8) = false := by simpa using h
        have HH := hid h
        clear h
        go_wp2
        go_roundg (6 - 4)
        case measure => decide
        case rel => exact ⟨4, by go_num, rfl, .inr (.inr (.inr (.inr (.inl ⟨rfl, rfl, HN.out.1, HN.out.2.1, HN.out.2.2.1, HH.out, trivial⟩))))⟩
    · have HN := hid hn
      clear hn
      by_cases h : n = 16
      · subst h
        go_wp2_with fail
        refine (L4.out _).mono ?_
        rintro e w1 ⟨rfl, hK⟩
        go_wp2
        go_ret
        exact ⟨rfl, hK⟩
      · have h' : (n == 16) = false := by simpa using h
        have HH := hid h
        clear h
        go_wp2
        go_roundg (6 - 5)
        case measure => decide
        case rel => exact ⟨5, by go_num, rfl, .inr (.inr (.inr (.inr (.inr (⟨rfl, rfl, HN.out.1, HN.out.2.1, HN.out.2.2.1, HN.out.2.2.2.1, HH.out, trivial⟩)))))⟩
    · have HT : Hid (flT n = []) := by
        show _ = _
        obtain ⟨h0, h1, h2, h3, h4, -⟩ := hn
        unfold flT; rw [if_neg h0, if_neg h1, if_neg h2, if_neg h3, if_neg h4]
      clear hn
      go_wp2
      go_ret
      exact ⟨ret_str (by rw [HT.out]; rfl), Kept.refl _ _⟩
end Go.Proofs.YtoleonldkifcbaaGreatDoor
namespace Go.Proofs.YtoleonldkifcbaaGreatDoor
open Go.RowKit

mutual
/-- A key's sets and keys lie in memory, behind the values sv and kv. -/
def KeyIn (lo : Nat) (w : World) : Ky → Value → Value → Prop
  | .mk _ _ c d ks, sv, kv => c.length ≤ bigN ∧ SpansAt lo w sv d ∧ ∃ a cap b off, kv = .slice a ks.length cap ∧ ks.length ≤ bigN ∧ ks.length ≤ cap ∧ (0 < ks.length → a = some ⟨b, off, none⟩ ∧ lo ≤ b ∧ b < w.heap.size) ∧ KeysIn lo w b off ks
def KeysIn (lo : Nat) (w : World) : Nat → Nat → List Ky → Prop
  | _, _, [] => True
  | b, off, k :: ks => (∃ sv kv, w.cell? ⟨b, off, none⟩ = some (.int .i64 k.kind) ∧ w.cell? ⟨b, off + 1, none⟩ = some (.int .i64 k.flag) ∧ w.cell? ⟨b, off + 2, none⟩ = some (.string (bs k.text)) ∧
      w.cell? ⟨b, off + 3, none⟩ = some sv ∧ w.cell? ⟨b, off + 4, none⟩ = some kv ∧ KeyIn lo w k sv kv) ∧ KeysIn lo w b (off + 5) ks
end
/-- A key as a value. -/
def KeyAt (lo : Nat) (w : World) (v : Value) (k : Ky) : Prop := ∃ sv kv, v = .agg #[.int .i64 k.kind, .int .i64 k.flag, .string (bs k.text), sv, kv] ∧ KeyIn lo w k sv kv

mutual
theorem KeyIn.kept {lo : Nat} {w w' : World} {bs : List Nat} (K : Kept bs w w') (hb : ∀ b ∈ bs, b < lo ∨ w.heap.size ≤ b) (k : Ky) (sv kv : Value) (h : KeyIn lo w k sv kv) : KeyIn lo w' k sv kv := by
  match k with
  | .mk x y c d ks =>
    unfold KeyIn at h ⊢
    obtain ⟨h1, h2, a, cap, b, off, h3, h4, h5, h6, h7⟩ := h
    refine ⟨h1, h2.kept K hb, a, cap, b, off, h3, h4, h5, fun h0 => ⟨(h6 h0).1, (h6 h0).2.1, Nat.lt_of_lt_of_le (h6 h0).2.2 K.size⟩, ?_⟩
    by_cases h0 : 0 < ks.length
    · exact KeysIn.kept K hb b off ks h7 (fun e => by rcases hb b e with h8 | h8 <;> have := (h6 h0).2 <;> omega)
    · have : ks = [] := List.eq_nil_of_length_eq_zero (by omega)
      subst this; unfold KeysIn; trivial
theorem KeysIn.kept {lo : Nat} {w w' : World} {bs : List Nat} (K : Kept bs w w') (hb : ∀ b ∈ bs, b < lo ∨ w.heap.size ≤ b) (b off : Nat) (ks : List Ky) (h : KeysIn lo w b off ks) (hn : b ∉ bs) : KeysIn lo w' b off ks := by
  match ks with
  | [] => unfold KeysIn; trivial
  | k :: ks =>
    unfold KeysIn at h ⊢
    obtain ⟨⟨sv, kv, c0, c1, c2, c3, c4, hk⟩, hr⟩ := h
    exact ⟨⟨sv, kv, K.cell_some c0 hn, K.cell_some c1 hn, K.cell_some c2 hn, K.cell_some c3 hn, K.cell_some c4 hn, KeyIn.kept K hb k sv kv hk⟩, KeysIn.kept K hb b (off + 5) ks hr hn⟩
end
theorem KeyAt.kept0 {lo : Nat} {w w' : World} {v : Value} {k : Ky} (h : KeyAt lo w v k) (K : Kept [] w w') : KeyAt lo w' v k := by
  obtain ⟨sv, kv, rfl, hk⟩ := h
  exact ⟨sv, kv, rfl, KeyIn.kept K (by simp) k sv kv hk⟩
mutual
theorem KeyIn.low {lo lo' : Nat} {w : World} (hl : lo' ≤ lo) (k : Ky) (sv kv : Value) (h : KeyIn lo w k sv kv) : KeyIn lo' w k sv kv := by
  match k with
  | .mk x y c d ks =>
    unfold KeyIn at h ⊢
    obtain ⟨h1, h2, a, cap, b, off, h3, h4, h5, h6, h7⟩ := h
    exact ⟨h1, h2.low hl, a, cap, b, off, h3, h4, h5, fun h0 => ⟨(h6 h0).1, Nat.le_trans hl (h6 h0).2.1, (h6 h0).2.2⟩, KeysIn.low hl b off ks h7⟩
theorem KeysIn.low {lo lo' : Nat} {w : World} (hl : lo' ≤ lo) (b off : Nat) (ks : List Ky) (h : KeysIn lo w b off ks) : KeysIn lo' w b off ks := by
  match ks with
  | [] => unfold KeysIn; trivial
  | k :: ks =>
    unfold KeysIn at h ⊢
    obtain ⟨⟨sv, kv, c0, c1, c2, c3, c4, hk⟩, hr⟩ := h
    exact ⟨⟨sv, kv, c0, c1, c2, c3, c4, KeyIn.low hl k sv kv hk⟩, KeysIn.low hl b (off + 5) ks hr⟩
end
theorem KeyAt.low {lo lo' : Nat} {w : World} {v : Value} {k : Ky} (h : KeyAt lo w v k) (hl : lo' ≤ lo) : KeyAt lo' w v k := by
  obtain ⟨sv, kv, rfl, hk⟩ := h
  exact ⟨sv, kv, rfl, KeyIn.low hl k sv kv hk⟩
theorem KeysIn.get {lo : Nat} {w : World} (b off : Nat) (ks : List Ky) (h : KeysIn lo w b off ks) (j : Nat) (hj : j < ks.length) :
    ∃ sv kv, w.cell? ⟨b, off + j * 5, none⟩ = some (.int .i64 ks[j].kind) ∧ w.cell? ⟨b, off + j * 5 + 1, none⟩ = some (.int .i64 ks[j].flag) ∧ w.cell? ⟨b, off + j * 5 + 2, none⟩ = some (.string (bs ks[j].text)) ∧
      w.cell? ⟨b, off + j * 5 + 3, none⟩ = some sv ∧ w.cell? ⟨b, off + j * 5 + 4, none⟩ = some kv ∧ KeyIn lo w ks[j] sv kv := by
  induction ks generalizing off j with
  | nil => simp at hj
  | cons k ks ih =>
    unfold KeysIn at h
    obtain ⟨⟨sv, kv, c0, c1, c2, c3, c4, hk⟩, hr⟩ := h
    cases j with
    | zero => exact ⟨sv, kv, by simpa using c0, by simpa using c1, by simpa using c2, by simpa using c3, by simpa using c4, hk⟩
    | succ j =>
      have := ih (off + 5) hr j (by simpa using hj)
      rw [show off + (j + 1) * 5 = off + 5 + j * 5 by omega]
      exact this
theorem KeysIn.of {lo : Nat} {w : World} (b off : Nat) (ks : List Ky) (h : ∀ j (hj : j < ks.length), ∃ sv kv, w.cell? ⟨b, off + j * 5, none⟩ = some (.int .i64 ks[j].kind) ∧ w.cell? ⟨b, off + j * 5 + 1, none⟩ = some (.int .i64 ks[j].flag) ∧ w.cell? ⟨b, off + j * 5 + 2, none⟩ = some (.string (bs ks[j].text)) ∧
      w.cell? ⟨b, off + j * 5 + 3, none⟩ = some sv ∧ w.cell? ⟨b, off + j * 5 + 4, none⟩ = some kv ∧ KeyIn lo w ks[j] sv kv) : KeysIn lo w b off ks := by
  induction ks generalizing off with
  | nil => unfold KeysIn; trivial
  | cons k ks ih =>
    unfold KeysIn
    refine ⟨?_, ih (off + 5) fun j hj => ?_⟩
    · obtain ⟨sv, kv, c0, c1, c2, c3, c4, hk⟩ := h 0 (by simp)
      exact ⟨sv, kv, by simpa using c0, by simpa using c1, by simpa using c2, by simpa using c3, by simpa using c4, hk⟩
    · have := h (j + 1) (by simpa using hj)
      rw [show off + (j + 1) * 5 = off + 5 + j * 5 by omega] at this
      exact this
/-- The parts of a key. -/
theorem KeyIn.parts {lo : Nat} {w : World} {k : Ky} {sv kv : Value} (h : KeyIn lo w k sv kv) : k.text.length ≤ bigN ∧ SpansAt lo w sv k.set ∧ ∃ a cap b off, kv = .slice a k.keys.length cap ∧ k.keys.length ≤ bigN ∧ k.keys.length ≤ cap ∧
    (0 < k.keys.length → a = some ⟨b, off, none⟩ ∧ lo ≤ b ∧ b < w.heap.size) ∧ KeysIn lo w b off k.keys := by
  cases k; unfold KeyIn at h; exact h

theorem empty_bs' (l : List UInt8) : ((bs l).toList == []) = decide (l.length = 0) := by
  rw [str_eq, bs_toList]; cases l <;> simp
def plainK (k : Ky) : Bool := (decide (k.flag = 0) && decide (k.text.length = 0)) && decide (k.set.length = 0)

set_option maxHeartbeats 1000000 in
theorem keyPlain_any (a b : Int) (c : List UInt8) (sa : Option Addr) (scap : Nat) (kv : Value) (d : Nat) (w : World) :
    Calls Tryz.prog 57 #[.agg #[.int .i64 a, .int .i64 b, .string (bs c), .slice sa d scap, kv]] w fun e w' => e = .returned (.bool ((decide (b = 0) && decide (c.length = 0)) && decide (d = 0))) ∧ Kept [] w w' := by
  by_cases hb : b = 0
  · subst hb
    by_cases hc : c.length = 0
    · have h2 : ((bs c).toList == []) = true := by rw [empty_bs', decide_eq_true_eq]; exact hc
      have HC := hid hc
      clear hc
      go_enter Tryz.func57, Tryz.ntmps57
      go_wp2
      go_ret
      exact ⟨ret_bool (by rw [decide_eq_true HC.out, Bool.eq_iff_iff]; simp <;> omega), (Kept.refl _ _).alloc _⟩
    · have h2 : ((bs c).toList == []) = false := by rw [empty_bs', decide_eq_false_iff_not]; exact hc
      have HC := hid hc
      clear hc
      go_enter Tryz.func57, Tryz.ntmps57
      go_wp2
      go_ret
      exact ⟨ret_bool (by rw [decide_eq_false HC.out]; simp), (Kept.refl _ _).alloc _⟩
  · have h1 : (b == 0) = false := by simpa using hb
    have HB := hid hb
    clear hb
    go_enter Tryz.func57, Tryz.ntmps57
    go_wp2
    go_ret
    exact ⟨ret_bool (by rw [decide_eq_false HB.out]; simp), (Kept.refl _ _).alloc _⟩

mutual
/-- The node of a key, as a value. -/
def NodeAt (lo : Nat) (w : World) : Ky → Value → Prop
  | .mk a b c d ks, v => (a = 0 ∧ v = .iface 90 (.agg #[])) ∨ (a = 1 ∧ v = .iface 65 (.agg #[.int .i64 b])) ∨ (a = 2 ∧ v = .iface 68 (.agg #[.string (bs c)])) ∨
      (a = 3 ∧ ∃ sv, v = .iface 70 (.agg #[sv]) ∧ SpansAt lo w sv d) ∨ (a = 4 ∧ ∃ sv, v = .iface 72 (.agg #[sv]) ∧ SpansAt lo w sv d) ∨
      (a = 5 ∧ ∃ v1, v = .iface 74 (.agg #[v1]) ∧ NodesAt lo w ks [v1]) ∨ ((a = 6 ∨ a = 7) ∧ ∃ v1 v2, v = .iface 76 (.agg #[.bool (decide (a = 6)), v1, v2]) ∧ NodesAt lo w ks [v1, v2])
def NodesAt (lo : Nat) (w : World) : List Ky → List Value → Prop
  | [], [] => True
  | k :: ks, v :: vs => NodeAt lo w k v ∧ NodesAt lo w ks vs
  | _, _ => False
end
mutual
theorem NodeAt.kept {lo : Nat} {w w' : World} {bs : List Nat} (K : Kept bs w w') (hb : ∀ b ∈ bs, b < lo ∨ w.heap.size ≤ b) (k : Ky) (v : Value) (h : NodeAt lo w k v) : NodeAt lo w' k v := by
  match k with
  | .mk a b c d ks =>
    unfold NodeAt at h ⊢
    rcases h with h | h | h | ⟨h, sv, h1, h2⟩ | ⟨h, sv, h1, h2⟩ | ⟨h, v1, h1, h2⟩ | ⟨h, v1, v2, h1, h2⟩
    · exact .inl h
    · exact .inr (.inl h)
    · exact .inr (.inr (.inl h))
    · exact .inr (.inr (.inr (.inl ⟨h, sv, h1, h2.kept K hb⟩)))
    · exact .inr (.inr (.inr (.inr (.inl ⟨h, sv, h1, h2.kept K hb⟩))))
    · exact .inr (.inr (.inr (.inr (.inr (.inl ⟨h, v1, h1, NodesAt.kept K hb ks _ h2⟩)))))
    · exact .inr (.inr (.inr (.inr (.inr (.inr ⟨h, v1, v2, h1, NodesAt.kept K hb ks _ h2⟩)))))
theorem NodesAt.kept {lo : Nat} {w w' : World} {bs : List Nat} (K : Kept bs w w') (hb : ∀ b ∈ bs, b < lo ∨ w.heap.size ≤ b) (ks : List Ky) (vs : List Value) (h : NodesAt lo w ks vs) : NodesAt lo w' ks vs := by
  match ks, vs with
  | [], [] => unfold NodesAt; trivial
  | k :: ks, v :: vs =>
    unfold NodesAt at h ⊢
    exact ⟨NodeAt.kept K hb k v h.1, NodesAt.kept K hb ks vs h.2⟩
  | [], _ :: _ => unfold NodesAt at h; exact h.elim
  | _ :: _, [] => unfold NodesAt at h; exact h.elim
end
end Go.Proofs.YtoleonldkifcbaaGreatDoor
namespace Go.Proofs.YtoleonldkifcbaaGreatDoor
open Go.RowKit

theorem flT_empty (n : Int) : ((bs (flT n)).toList != []) = isFl n := by
  rw [bne, empty_bs', Bool.eq_iff_iff]
  unfold flT isFl
  by_cases h1 : n = 1
  · subst h1; simp [tSeen]
  by_cases h2 : n = 2
  · subst h2; simp [tAnswered]
  by_cases h4 : n = 4
  · subst h4; simp [tFlagged]
  by_cases h8 : n = 8
  · subst h8; simp [tDeleted]
  by_cases h16 : n = 16
  · subst h16; simp [tDraft]
  simp [h1, h2, h4, h8, h16]

/-- The check of a leaf: its own field, no keys, nothing else. -/
theorem nodeOk_0 (b : Int) (c : List UInt8) (d : List (Int × Int)) (n : Nat) : nodeOk 0 b c d n = (decide (n = 0) && ((decide (b = 0) && decide (c.length = 0)) && decide (d.length = 0))) := by
  simp [nodeOk, fieldsOk, kindOk, Bool.and_comm, Bool.and_left_comm, Bool.and_assoc]
theorem nodeOk_1 (b : Int) (c : List UInt8) (d : List (Int × Int)) (n : Nat) : nodeOk 1 b c d n = (isFl b && (decide (n = 0) && ((decide ((0 : Int) = 0) && decide (c.length = 0)) && decide (d.length = 0)))) := by
  simp [nodeOk, fieldsOk, kindOk, Bool.and_comm, Bool.and_assoc]
theorem nodeOk_2 (b : Int) (c : List UInt8) (d : List (Int × Int)) (n : Nat) : nodeOk 2 b c d n = (isName c && (decide (n = 0) && ((decide (b = 0) && decide (([] : List UInt8).length = 0)) && decide (d.length = 0)))) := by
  simp [nodeOk, fieldsOk, kindOk, Bool.and_comm, Bool.and_assoc]
theorem nodeOk_3 (a b : Int) (ha : a = 3 ∨ a = 4) (c : List UInt8) (d : List (Int × Int)) (n : Nat) : nodeOk a b c d n = (setOk d && (decide (n = 0) && ((decide (b = 0) && decide (c.length = 0)) && decide (([] : List (Int × Int)).length = 0)))) := by
  rcases ha with rfl | rfl <;> simp [nodeOk, fieldsOk, kindOk, Bool.and_comm, Bool.and_assoc]
theorem nodeOk_neg (a b : Int) (ha : a < 0) (c : List UInt8) (d : List (Int × Int)) (n : Nat) : nodeOk a b c d n = false := by
  have : kindOk a b c d n = false := by
    unfold kindOk
    repeat rw [if_neg (by omega)]
  unfold nodeOk; rw [this, Bool.and_false]

/-- What building tells. -/
def BldRes (w0 : World) (lo p : Nat) (k : Ky) (o : Option Nat) (w : World) (e : Ending) (w' : World) : Prop :=
  ∃ nv ok, e = .returned (.tuple #[nv, .bool ok]) ∧ Kept [p] w w' ∧ match o with
    | some q => ok = true ∧ NodeAt lo w0 k nv ∧ w'.heap[p]? = some (.cells #[.int .i64 (q : Nat)] 3 (0, 0))
    | none => ok = false

theorem bne_false {s : ByteArray} (h : (s.toList != []) = false) : s.toList = [] ∧ s.toList.isEmpty = true ∧ (s.toList == []) = true := by
  have h2 : s.toList = [] := by simpa using h
  rw [h2]; exact ⟨rfl, rfl, rfl⟩
theorem bne_true {s : ByteArray} (h : (s.toList != []) = true) : ¬ s.toList = [] ∧ s.toList.isEmpty = false ∧ (s.toList == []) = false := by
  have h2 : ¬ s.toList = [] := by simpa using h
  exact ⟨h2, by simpa using h2, by simpa using h2⟩
theorem bld_done {lo p q : Nat} {k : Ky} {o : Option Nat} {w0 w W w' : World} {nv : Value} (hKP : Kept [p] w W) (hRB : W.heap[p]? = some (.cells #[.int .i64 (q : Nat)] 3 (0, 0))) (hK : Kept [] W w') (ho : o = some q) (hn : NodeAt lo w0 k nv) :
    BldRes w0 lo p k o w (.returned (.tuple #[nv, .bool true])) w' := by
  refine ⟨nv, true, rfl, hKP.trans hK.nil, ?_⟩
  rw [ho]; exact ⟨rfl, hn, hK.same hRB (by simp)⟩

/-- What the branch's walk wants of building: each key, out of whatever room. -/
def BldAll (lo : Nat) (w0 : World) (ks : List Ky) : Prop :=
  ∀ k ∈ ks, ∀ (sv kv : Value) (p r : Nat) (w : World), KeyIn lo w0 k sv kv → Kept [] w0 w → w0.heap.size ≤ p → r ≤ 9 → w.heap[p]? = some (.cells #[.int .i64 (r : Nat)] 3 (0, 0)) →
    Calls Tryz.prog 37 #[.agg #[.int .i64 k.kind, .int .i64 k.flag, .string (bs k.text), sv, kv], .pointer (some ⟨p, 0, none⟩)] w (BldRes w0 lo p k (bldK r k) w)

set_option maxRecDepth 100000 in
set_option maxHeartbeats 4000000 in
theorem keyLeaf_any (lo : Nat) (w0 : World) (a b : Int) (c : List UInt8) (d : List (Int × Int)) (ks : List Ky) (sv kv : Value) (p r : Nat) (w : World) (h : KeyIn lo w0 (.mk a b c d ks) sv kv) (hK0 : Kept [] w0 w) (hp : w0.heap.size ≤ p)
    (hF : FlagsAt w0) (hr9 : r ≤ 9) (hb : w.heap[p]? = some (.cells #[.int .i64 (r : Nat)] 3 (0, 0))) (ha : a < 5) :
    Calls Tryz.prog 37 #[.agg #[.int .i64 a, .int .i64 b, .string (bs c), sv, kv], .pointer (some ⟨p, 0, none⟩)] w (BldRes w0 lo p (.mk a b c d ks) (bldK r (.mk a b c d ks)) w) := by
  have c0 := cell_of_block hb 0
  have f0 := frozen_of_block hb 0
  simp at c0
  have hpl := lt_of_block hb
  have hpn : ¬ p = w.heap.size := by omega
  have HP := hid hb
  have HI := hid h
  have HK0 := hid hK0
  have HFL := hid hF
  obtain ⟨hcl, hsp, a4, cap, b4, off, hkv, hl1, hl2, -, -⟩ := h.parts
  have hkv : kv = .slice a4 ks.length cap := hkv
  subst hkv
  simp only [Ky.keys, Ky.text, Ky.set] at hcl hsp hl1 hl2
  have HSP := hid hsp
  obtain ⟨sa, scap, rfl⟩ := hsp.form
  clear hb h hK0 hF hsp
  have HB0 := hid (new_block w (Obj.cells #[.int .i64 a, .int .i64 b, .string (bs c), .slice sa d.length scap, .slice a4 ks.length cap] 26))
  by_cases hr : r = 0
  · subst hr
    have c0 : w.cell? ⟨p, 0, none⟩ = some (.int .i64 0) := c0
    go_enter Tryz.func37, Tryz.ntmps37
    go_wp2
    go_ret2
    exact ⟨_, false, rfl, by repeat' with_reducible first | exact Kept.refl _ _ | refine Kept.alloc ?_ _ | refine Kept.setCell ?_ _ _ (by simp), by unfold bldK; rw [if_pos rfl]⟩
  · obtain ⟨q, rfl⟩ : ∃ q, r = q + 1 := ⟨r - 1, by omega⟩
    have hq1 : ((q + 1 : Nat) : Int) - 1 = q := by omega
    have hq0 : ¬ (q : Int) < 0 := by omega
    have hqw : wrap64 (q : Int) = q := by unfold wrap64; omega
    have HBD : Hid (bldK (q + 1) (.mk a b c d ks) = if nodeOk a b c d ks.length = true then some q else none) := by
      show _ = _
      unfold bldK; rw [if_neg (by omega), if_pos ha]; rfl
    clear hr
    have ha5 : ¬ (5 : Int) ≤ a := by omega
    go_enter Tryz.func37, Tryz.ntmps37
    go_upto_region 4 with fail
    refine gen_world (fun W => W.heap[p]? = some (.cells #[.int .i64 (q : Nat)] 3 (0, 0)) ∧ W.heap[w.heap.size]? = some (.cells #[.int .i64 a, .int .i64 b, .string (bs c), .slice sa d.length scap, .slice a4 ks.length cap] 26 (0, 0)) ∧ Kept [p] w W) ⟨?_, ?_, ?_⟩ ?_
    · have := alloc_block (set_of_block (i := 0) HP.out (.int .i64 (q : Int))) (Obj.cells #[.int .i64 a, .int .i64 b, .string (bs c), .slice sa d.length scap, .slice a4 ks.length cap] 26)
      simpa using this
    · have := new_block (w.setCell ⟨p, 0, none⟩ (.int .i64 (q : Int))) (Obj.cells #[.int .i64 a, .int .i64 b, .string (bs c), .slice sa d.length scap, .slice a4 ks.length cap] 26)
      simpa using this
    · exact ((Kept.refl _ _).setCell _ _ (by simp)).alloc _
    clear c0 f0 HP
    rintro W ⟨hRB, hB, hKP⟩
    have z0 := cell_of_block hB 0
    have z1 := cell_of_block hB 1
    have z2 := cell_of_block hB 2
    have z3 := cell_of_block hB 3
    have z4 := cell_of_block hB 4
    simp at z0 z1 z2 z3 z4
    have hzl := lt_of_block hB
    have HRB := hid hRB
    have HB := hid hB
    have HKP := hid hKP
    have HKW := hid (Kept.refl [] W)
    clear hRB hB hKP
    by_cases an : a < 0
    · have HNO := hid (nodeOk_neg a b an c d ks.length)
      have e0 : (a == 0) = false := by simp; omega
      have e1 : (a == 1) = false := by simp; omega
      have e2 : (a == 2) = false := by simp; omega
      have e3 : (a == 3) = false := by simp; omega
      have e4 : (a == 4) = false := by simp; omega
      clear an ha
      go_wp2
      go_ret2
      refine ⟨_, false, rfl, HKP.out.trans ?_, by rw [HBD.out, if_neg (by first | (rw [HNO.out]; simp; done) | (rw [HNO.out, HKD.out]; simp; done))]⟩
      repeat' with_reducible first | exact HKW.out.nil | exact Kept.refl _ _ | refine Kept.alloc ?_ _ | refine Kept.drewN ?_ _ | refine Kept.drew ?_ | refine Kept.setCell ?_ _ _ (by simp) | refine Kept.trans ?_ hK1.nil
    · by_cases e0 : a = 0
      · subst e0
        have HPL := hid (fun W => keyPlain_any 0 b c sa scap (.slice a4 ks.length cap) d.length W)
        have HNO := hid (nodeOk_0 b c d ks.length)
        obtain ⟨pb, hpb⟩ : ∃ pb, ((decide (b = 0) && decide (c.length = 0)) && decide (d.length = 0)) = pb := ⟨_, rfl⟩
        rw [hpb] at HPL HNO
        clear an ha hpb
        by_cases hk : ks.length = 0
        · have hk' : ((ks.length : Int) != 0) = false := by simp [hk]
          have HK := hid hk
          have hk0 : decide (ks.length = 0) = true := by rw [decide_eq_true_eq]; exact hk
          have HKD := hid hk0
          clear hk hk0
          cases pb with
          | true =>
            go_wp2_with (go_at_call 57; refine (HPL.out _).mono ?_; rintro e w1 ⟨rfl, hK1⟩)
            have hkd := HKD.out
            go_ret2
            refine bld_done HKP.out HRB.out ?_ (by rw [HBD.out, if_pos (by rw [HNO.out, HKD.out]; rfl)]) (by unfold NodeAt; exact .inl ⟨rfl, rfl⟩)
            repeat' with_reducible first | exact HKW.out | exact Kept.refl _ _ | refine Kept.alloc ?_ _ | refine Kept.drewN ?_ _ | refine Kept.drew ?_ | refine Kept.trans ?_ hK1
          | false =>
            go_wp2_with (go_at_call 57; refine (HPL.out _).mono ?_; rintro e w1 ⟨rfl, hK1⟩)
            go_ret2
            refine ⟨_, false, rfl, HKP.out.trans ?_, by rw [HBD.out, if_neg (by first | (rw [HNO.out]; simp; done) | (rw [HNO.out, HKD.out]; simp; done))]⟩
            repeat' with_reducible first | exact HKW.out.nil | exact Kept.refl _ _ | refine Kept.alloc ?_ _ | refine Kept.drewN ?_ _ | refine Kept.drew ?_ | refine Kept.setCell ?_ _ _ (by simp) | refine Kept.trans ?_ hK1.nil
        · have hk' : ((ks.length : Int) != 0) = true := by simp [hk]
          have hk0 : decide (ks.length = 0) = false := by rw [decide_eq_false_iff_not]; exact hk
          have HKD := hid hk0
          clear hk hk0
          go_wp2
          have hkd := HKD.out
          go_ret2
          refine ⟨_, false, rfl, HKP.out.trans ?_, by rw [HBD.out, if_neg (by first | (rw [HNO.out]; simp; done) | (rw [HNO.out, HKD.out]; simp; done))]⟩
          repeat' with_reducible first | exact HKW.out.nil | exact Kept.refl _ _ | refine Kept.alloc ?_ _ | refine Kept.drewN ?_ _ | refine Kept.drew ?_ | refine Kept.setCell ?_ _ _ (by simp) | refine Kept.trans ?_ hK1.nil
      · by_cases e1 : a = 1
        · subst e1
          have HPL := hid (fun W => keyPlain_any 1 0 c sa scap (.slice a4 ks.length cap) d.length W)
          have HNO := hid (nodeOk_1 b c d ks.length)
          obtain ⟨pb, hpb⟩ : ∃ pb, ((decide ((0 : Int) = 0) && decide (c.length = 0)) && decide (d.length = 0)) = pb := ⟨_, rfl⟩
          obtain ⟨vb, hvb⟩ : ∃ vb, isFl b = vb := ⟨_, rfl⟩
          have HCA := hid (fun W' (hW : Kept [] w0 W') => keyFlagWord_any b W' (HFL.out.kept0 hW))
          have HFE := hid (flT_empty b)
          have HKW0 := hid (HK0.out.newB HKP.out hp)
          rw [hpb] at HPL HNO
          rw [hvb] at HNO HFE
          clear an e0 ha hpb hvb
          obtain ⟨fs, hfs⟩ : ∃ fs, bs (flT b) = fs := ⟨_, rfl⟩
          rw [hfs] at HCA HFE
          clear hfs
          cases vb with
          | false =>
            obtain ⟨g1, g2, g3⟩ := bne_false HFE.out
            go_wp2
            have CK := hid (fun W' (h : Kept [] W W') => (show W'.cell? ⟨w.heap.size, 1, none⟩ = some (.int .i64 b) from by have hb := h.same HB.out (by simp); rw [cell_of_block hb]; rfl))
            have NB := hid (new_block W (Obj.cells #[.int .i64 1, .int .i64 b, .string (bs c), .slice sa d.length scap, .slice a4 ks.length cap] 26))
            go_region_held3 (fun w' => w'.cell? ⟨w.heap.size, 1, none⟩ = some (.int .i64 b))
              (first
                | go_keep
                | exact CK.out _ (by repeat' with_reducible first | exact hKK | exact Kept.refl _ _ | refine Kept.setCell ?_ _ _ (by simp) | refine Kept.drew ?_ | refine Kept.alloc ?_ _))
              (first
                | (go_at_call 38
                   with_reducible refine (HCA.out _ ?_).mono ?_
                   · refine HKW0.out.trans ?_
                     repeat' with_reducible first | exact Kept.refl _ _ | refine Kept.setCell ?_ _ _ (by simp) | refine Kept.drew ?_ | refine Kept.alloc ?_ _
                   rintro e w1 ⟨rfl, hK1⟩
                   have hKK : Kept [] W w1 := Kept.trans (by repeat' with_reducible first | exact Kept.refl _ _ | refine Kept.setCell ?_ _ _ (by simp) | refine Kept.drew ?_ | refine Kept.alloc ?_ _) hK1
                   have hr := hK1.same NB.out (by simp)
                   have hrl := lt_of_block hr
                   have r0 := cell_of_block hr 1
                   have r1 := cell_of_block hr 2
                   have r2 := cell_of_block hr 3
                   have s0 := frozen_of_block hr 1
                   have s1 := frozen_of_block hr 2
                   have s2 := frozen_of_block hr 3
                   simp at r0 r1 r2))
            all_goals
              refine gen_world (fun W2 => W2.heap[W.heap.size]? = some (.cells #[.int .i64 1, .int .i64 0, .string (bs c), .slice sa d.length scap, .slice a4 ks.length cap] 26 (0, 0)) ∧ Kept [] W W2) ⟨by have := set_of_block (i := 1) hr (Value.int .i64 0); simpa using this, by repeat' with_reducible first | exact hKK | refine Kept.setCell ?_ _ _ (by simp) | refine Kept.drew ?_ | refine Kept.drewN ?_ _⟩ ?_
              rintro W2 ⟨hR2, hKW2⟩
              have r0 := cell_of_block hR2 0
              have r1 := cell_of_block hR2 1
              have r2 := cell_of_block hR2 2
              have r3 := cell_of_block hR2 3
              have r4 := cell_of_block hR2 4
              simp at r0 r1 r2 r3 r4
              have hz2 := hKW2.same HB.out (by simp)
              have z0 := cell_of_block hz2 0
              have z1 := cell_of_block hz2 1
              have z2 := cell_of_block hz2 2
              have z3 := cell_of_block hz2 3
              have z4 := cell_of_block hz2 4
              simp at z0 z1 z2 z3 z4
              have hzl := lt_of_block hz2
              have HKW := hid hKW2
              clear hR2 hKW2 hz2 hr hKK hK1 CK NB
              go_wp2
              go_ret2
              refine ⟨_, false, rfl, HKP.out.trans ?_, by rw [HBD.out, if_neg (by first | (rw [HNO.out]; simp; done) | (rw [HNO.out, HKD.out]; simp; done))]⟩
              repeat' with_reducible first | exact HKW.out.nil | exact Kept.refl _ _ | refine Kept.alloc ?_ _ | refine Kept.drewN ?_ _ | refine Kept.drew ?_ | refine Kept.setCell ?_ _ _ (by simp) | refine Kept.trans ?_ hK1.nil
          | true =>
            obtain ⟨g1, g2, g3⟩ := bne_true HFE.out
            go_wp2
            have CK := hid (fun W' (h : Kept [] W W') => (show W'.cell? ⟨w.heap.size, 1, none⟩ = some (.int .i64 b) from by have hb := h.same HB.out (by simp); rw [cell_of_block hb]; rfl))
            have NB := hid (new_block W (Obj.cells #[.int .i64 1, .int .i64 b, .string (bs c), .slice sa d.length scap, .slice a4 ks.length cap] 26))
            go_region_held3 (fun w' => w'.cell? ⟨w.heap.size, 1, none⟩ = some (.int .i64 b))
              (first
                | go_keep
                | exact CK.out _ (by repeat' with_reducible first | exact hKK | exact Kept.refl _ _ | refine Kept.setCell ?_ _ _ (by simp) | refine Kept.drew ?_ | refine Kept.alloc ?_ _))
              (first
                | (go_at_call 38
                   with_reducible refine (HCA.out _ ?_).mono ?_
                   · refine HKW0.out.trans ?_
                     repeat' with_reducible first | exact Kept.refl _ _ | refine Kept.setCell ?_ _ _ (by simp) | refine Kept.drew ?_ | refine Kept.alloc ?_ _
                   rintro e w1 ⟨rfl, hK1⟩
                   have hKK : Kept [] W w1 := Kept.trans (by repeat' with_reducible first | exact Kept.refl _ _ | refine Kept.setCell ?_ _ _ (by simp) | refine Kept.drew ?_ | refine Kept.alloc ?_ _) hK1
                   have hr := hK1.same NB.out (by simp)
                   have hrl := lt_of_block hr
                   have r0 := cell_of_block hr 1
                   have r1 := cell_of_block hr 2
                   have r2 := cell_of_block hr 3
                   have s0 := frozen_of_block hr 1
                   have s1 := frozen_of_block hr 2
                   have s2 := frozen_of_block hr 3
                   simp at r0 r1 r2))
            all_goals
              refine gen_world (fun W2 => W2.heap[W.heap.size]? = some (.cells #[.int .i64 1, .int .i64 0, .string (bs c), .slice sa d.length scap, .slice a4 ks.length cap] 26 (0, 0)) ∧ Kept [] W W2) ⟨by have := set_of_block (i := 1) hr (Value.int .i64 0); simpa using this, by repeat' with_reducible first | exact hKK | refine Kept.setCell ?_ _ _ (by simp) | refine Kept.drew ?_ | refine Kept.drewN ?_ _⟩ ?_
              rintro W2 ⟨hR2, hKW2⟩
              have r0 := cell_of_block hR2 0
              have r1 := cell_of_block hR2 1
              have r2 := cell_of_block hR2 2
              have r3 := cell_of_block hR2 3
              have r4 := cell_of_block hR2 4
              simp at r0 r1 r2 r3 r4
              have hz2 := hKW2.same HB.out (by simp)
              have z0 := cell_of_block hz2 0
              have z1 := cell_of_block hz2 1
              have z2 := cell_of_block hz2 2
              have z3 := cell_of_block hz2 3
              have z4 := cell_of_block hz2 4
              simp at z0 z1 z2 z3 z4
              have hzl := lt_of_block hz2
              have HKW := hid hKW2
              clear hR2 hKW2 hz2 hr hKK hK1 CK NB
              by_cases hk : ks.length = 0
              · have hk' : ((ks.length : Int) != 0) = false := by simp [hk]
                have HK := hid hk
                have hk0 : decide (ks.length = 0) = true := by rw [decide_eq_true_eq]; exact hk
                have HKD := hid hk0
                clear hk hk0
                cases pb with
                | true =>
                  go_wp2_with (go_at_call 57; refine (HPL.out _).mono ?_; rintro e w1 ⟨rfl, hK1⟩)
                  have hkd := HKD.out
                  go_ret2
                  refine bld_done HKP.out HRB.out ?_ (by rw [HBD.out, if_pos (by rw [HNO.out, HKD.out]; rfl)]) (by unfold NodeAt; exact .inr (.inl ⟨rfl, rfl⟩))
                  repeat' with_reducible first | exact HKW.out | exact Kept.refl _ _ | refine Kept.alloc ?_ _ | refine Kept.drewN ?_ _ | refine Kept.drew ?_ | refine Kept.trans ?_ hK1
                | false =>
                  go_wp2_with (go_at_call 57; refine (HPL.out _).mono ?_; rintro e w1 ⟨rfl, hK1⟩)
                  go_ret2
                  refine ⟨_, false, rfl, HKP.out.trans ?_, by rw [HBD.out, if_neg (by first | (rw [HNO.out]; simp; done) | (rw [HNO.out, HKD.out]; simp; done))]⟩
                  repeat' with_reducible first | exact HKW.out.nil | exact Kept.refl _ _ | refine Kept.alloc ?_ _ | refine Kept.drewN ?_ _ | refine Kept.drew ?_ | refine Kept.setCell ?_ _ _ (by simp) | refine Kept.trans ?_ hK1.nil
              · have hk' : ((ks.length : Int) != 0) = true := by simp [hk]
                have hk0 : decide (ks.length = 0) = false := by rw [decide_eq_false_iff_not]; exact hk
                have HKD := hid hk0
                clear hk hk0
                go_wp2
                have hkd := HKD.out
                go_ret2
                refine ⟨_, false, rfl, HKP.out.trans ?_, by rw [HBD.out, if_neg (by first | (rw [HNO.out]; simp; done) | (rw [HNO.out, HKD.out]; simp; done))]⟩
                repeat' with_reducible first | exact HKW.out.nil | exact Kept.refl _ _ | refine Kept.alloc ?_ _ | refine Kept.drewN ?_ _ | refine Kept.drew ?_ | refine Kept.setCell ?_ _ _ (by simp) | refine Kept.trans ?_ hK1.nil
        · by_cases e2 : a = 2
          · subst e2
            have HPL := hid (fun W => keyPlain_any 2 b [] sa scap (.slice a4 ks.length cap) d.length W)
            have HNO := hid (nodeOk_2 b c d ks.length)
            obtain ⟨pb, hpb⟩ : ∃ pb, ((decide (b = 0) && decide (([] : List UInt8).length = 0)) && decide (d.length = 0)) = pb := ⟨_, rfl⟩
            obtain ⟨vb, hvb⟩ : ∃ vb, isName c = vb := ⟨_, rfl⟩
            have HCA := hid (fun W' (_ : Kept [] w0 W') => by have := iNameValid_any (bs c) W' (by rw [bs_size]; exact Nat.le_trans hcl bigN_le); rw [bs_toList] at this; exact this)
            have HKW0 := hid (HK0.out.newB HKP.out hp)
            rw [hpb] at HPL HNO
            rw [hvb] at HNO HCA
            clear an e0 e1 ha hpb hvb
            cases vb with
            | false =>
              go_wp2
              have CK := hid (fun W' (h : Kept [] W W') => (show W'.cell? ⟨w.heap.size, 2, none⟩ = some (.string (bs c)) from by have hb := h.same HB.out (by simp); rw [cell_of_block hb]; rfl))
              have NB := hid (new_block W (Obj.cells #[.int .i64 2, .int .i64 b, .string (bs c), .slice sa d.length scap, .slice a4 ks.length cap] 26))
              go_region_held3 (fun w' => w'.cell? ⟨w.heap.size, 2, none⟩ = some (.string (bs c)))
                (first
                  | go_keep
                  | exact CK.out _ (by repeat' with_reducible first | exact hKK | exact Kept.refl _ _ | refine Kept.setCell ?_ _ _ (by simp) | refine Kept.drew ?_ | refine Kept.alloc ?_ _))
                (first
                  | (go_at_call 55
                     with_reducible refine (HCA.out _ ?_).mono ?_
                     · refine HKW0.out.trans ?_
                       repeat' with_reducible first | exact Kept.refl _ _ | refine Kept.setCell ?_ _ _ (by simp) | refine Kept.drew ?_ | refine Kept.alloc ?_ _
                     rintro e w1 ⟨rfl, hK1⟩
                     have hKK : Kept [] W w1 := Kept.trans (by repeat' with_reducible first | exact Kept.refl _ _ | refine Kept.setCell ?_ _ _ (by simp) | refine Kept.drew ?_ | refine Kept.alloc ?_ _) hK1
                     have hr := hK1.same NB.out (by simp)
                     have hrl := lt_of_block hr
                     have r0 := cell_of_block hr 1
                     have r1 := cell_of_block hr 2
                     have r2 := cell_of_block hr 3
                     have s0 := frozen_of_block hr 1
                     have s1 := frozen_of_block hr 2
                     have s2 := frozen_of_block hr 3
                     simp at r0 r1 r2))
              all_goals
                refine gen_world (fun W2 => W2.heap[W.heap.size]? = some (.cells #[.int .i64 2, .int .i64 b, .string ⟨#[]⟩, .slice sa d.length scap, .slice a4 ks.length cap] 26 (0, 0)) ∧ Kept [] W W2) ⟨by have := set_of_block (i := 2) hr (Value.string ⟨#[]⟩); simpa using this, by repeat' with_reducible first | exact hKK | refine Kept.setCell ?_ _ _ (by simp) | refine Kept.drew ?_ | refine Kept.drewN ?_ _⟩ ?_
                rintro W2 ⟨hR2, hKW2⟩
                have r0 := cell_of_block hR2 0
                have r1 := cell_of_block hR2 1
                have r2 := cell_of_block hR2 2
                have r3 := cell_of_block hR2 3
                have r4 := cell_of_block hR2 4
                simp at r0 r1 r2 r3 r4
                have hz2 := hKW2.same HB.out (by simp)
                have z0 := cell_of_block hz2 0
                have z1 := cell_of_block hz2 1
                have z2 := cell_of_block hz2 2
                have z3 := cell_of_block hz2 3
                have z4 := cell_of_block hz2 4
                simp at z0 z1 z2 z3 z4
                have hzl := lt_of_block hz2
                have HKW := hid hKW2
                clear hR2 hKW2 hz2 hr hKK hK1 CK NB
                go_wp2
                go_ret2
                refine ⟨_, false, rfl, HKP.out.trans ?_, by rw [HBD.out, if_neg (by first | (rw [HNO.out]; simp; done) | (rw [HNO.out, HKD.out]; simp; done))]⟩
                repeat' with_reducible first | exact HKW.out.nil | exact Kept.refl _ _ | refine Kept.alloc ?_ _ | refine Kept.drewN ?_ _ | refine Kept.drew ?_ | refine Kept.setCell ?_ _ _ (by simp) | refine Kept.trans ?_ hK1.nil
            | true =>
              go_wp2
              have CK := hid (fun W' (h : Kept [] W W') => (show W'.cell? ⟨w.heap.size, 2, none⟩ = some (.string (bs c)) from by have hb := h.same HB.out (by simp); rw [cell_of_block hb]; rfl))
              have NB := hid (new_block W (Obj.cells #[.int .i64 2, .int .i64 b, .string (bs c), .slice sa d.length scap, .slice a4 ks.length cap] 26))
              go_region_held3 (fun w' => w'.cell? ⟨w.heap.size, 2, none⟩ = some (.string (bs c)))
                (first
                  | go_keep
                  | exact CK.out _ (by repeat' with_reducible first | exact hKK | exact Kept.refl _ _ | refine Kept.setCell ?_ _ _ (by simp) | refine Kept.drew ?_ | refine Kept.alloc ?_ _))
                (first
                  | (go_at_call 55
                     with_reducible refine (HCA.out _ ?_).mono ?_
                     · refine HKW0.out.trans ?_
                       repeat' with_reducible first | exact Kept.refl _ _ | refine Kept.setCell ?_ _ _ (by simp) | refine Kept.drew ?_ | refine Kept.alloc ?_ _
                     rintro e w1 ⟨rfl, hK1⟩
                     have hKK : Kept [] W w1 := Kept.trans (by repeat' with_reducible first | exact Kept.refl _ _ | refine Kept.setCell ?_ _ _ (by simp) | refine Kept.drew ?_ | refine Kept.alloc ?_ _) hK1
                     have hr := hK1.same NB.out (by simp)
                     have hrl := lt_of_block hr
                     have r0 := cell_of_block hr 1
                     have r1 := cell_of_block hr 2
                     have r2 := cell_of_block hr 3
                     have s0 := frozen_of_block hr 1
                     have s1 := frozen_of_block hr 2
                     have s2 := frozen_of_block hr 3
                     simp at r0 r1 r2))
              all_goals
                refine gen_world (fun W2 => W2.heap[W.heap.size]? = some (.cells #[.int .i64 2, .int .i64 b, .string ⟨#[]⟩, .slice sa d.length scap, .slice a4 ks.length cap] 26 (0, 0)) ∧ Kept [] W W2) ⟨by have := set_of_block (i := 2) hr (Value.string ⟨#[]⟩); simpa using this, by repeat' with_reducible first | exact hKK | refine Kept.setCell ?_ _ _ (by simp) | refine Kept.drew ?_ | refine Kept.drewN ?_ _⟩ ?_
                rintro W2 ⟨hR2, hKW2⟩
                have r0 := cell_of_block hR2 0
                have r1 := cell_of_block hR2 1
                have r2 := cell_of_block hR2 2
                have r3 := cell_of_block hR2 3
                have r4 := cell_of_block hR2 4
                simp at r0 r1 r2 r3 r4
                have hz2 := hKW2.same HB.out (by simp)
                have z0 := cell_of_block hz2 0
                have z1 := cell_of_block hz2 1
                have z2 := cell_of_block hz2 2
                have z3 := cell_of_block hz2 3
                have z4 := cell_of_block hz2 4
                simp at z0 z1 z2 z3 z4
                have hzl := lt_of_block hz2
                have HKW := hid hKW2
                clear hR2 hKW2 hz2 hr hKK hK1 CK NB
                by_cases hk : ks.length = 0
                · have hk' : ((ks.length : Int) != 0) = false := by simp [hk]
                  have HK := hid hk
                  have hk0 : decide (ks.length = 0) = true := by rw [decide_eq_true_eq]; exact hk
                  have HKD := hid hk0
                  clear hk hk0
                  cases pb with
                  | true =>
                    go_wp2_with (go_at_call 57; refine (HPL.out _).mono ?_; rintro e w1 ⟨rfl, hK1⟩)
                    have hkd := HKD.out
                    go_ret2
                    refine bld_done HKP.out HRB.out ?_ (by rw [HBD.out, if_pos (by rw [HNO.out, HKD.out]; rfl)]) (by unfold NodeAt; exact .inr (.inr (.inl ⟨rfl, rfl⟩)))
                    repeat' with_reducible first | exact HKW.out | exact Kept.refl _ _ | refine Kept.alloc ?_ _ | refine Kept.drewN ?_ _ | refine Kept.drew ?_ | refine Kept.trans ?_ hK1
                  | false =>
                    go_wp2_with (go_at_call 57; refine (HPL.out _).mono ?_; rintro e w1 ⟨rfl, hK1⟩)
                    go_ret2
                    refine ⟨_, false, rfl, HKP.out.trans ?_, by rw [HBD.out, if_neg (by first | (rw [HNO.out]; simp; done) | (rw [HNO.out, HKD.out]; simp; done))]⟩
                    repeat' with_reducible first | exact HKW.out.nil | exact Kept.refl _ _ | refine Kept.alloc ?_ _ | refine Kept.drewN ?_ _ | refine Kept.drew ?_ | refine Kept.setCell ?_ _ _ (by simp) | refine Kept.trans ?_ hK1.nil
                · have hk' : ((ks.length : Int) != 0) = true := by simp [hk]
                  have hk0 : decide (ks.length = 0) = false := by rw [decide_eq_false_iff_not]; exact hk
                  have HKD := hid hk0
                  clear hk hk0
                  go_wp2
                  have hkd := HKD.out
                  go_ret2
                  refine ⟨_, false, rfl, HKP.out.trans ?_, by rw [HBD.out, if_neg (by first | (rw [HNO.out]; simp; done) | (rw [HNO.out, HKD.out]; simp; done))]⟩
                  repeat' with_reducible first | exact HKW.out.nil | exact Kept.refl _ _ | refine Kept.alloc ?_ _ | refine Kept.drewN ?_ _ | refine Kept.drew ?_ | refine Kept.setCell ?_ _ _ (by simp) | refine Kept.trans ?_ hK1.nil
          · by_cases e3 : a = 3
            · subst e3
              have HPL := hid (fun W => keyPlain_any 3 b c none 0 (.slice a4 ks.length cap) 0 W)
              have HNO := hid (nodeOk_3 3 b (by decide) c d ks.length)
              obtain ⟨pb, hpb⟩ : ∃ pb, ((decide (b = 0) && decide (c.length = 0)) && decide ((0 : Nat) = 0)) = pb := ⟨_, rfl⟩
              obtain ⟨vb, hvb⟩ : ∃ vb, setOk d = vb := ⟨_, rfl⟩
              have HCA := hid (fun W' (hW : Kept [] w0 W') => iSetValid_any lo (.slice sa d.length scap) d W' (HSP.out.kept0 hW))
              have HKW0 := hid (HK0.out.newB HKP.out hp)
              rw [hpb] at HPL
              rw [show ((decide (b = 0) && decide (c.length = 0)) && decide (([] : List (Int × Int)).length = 0)) = pb from hpb] at HNO
              rw [hvb] at HNO HCA
              clear an e0 e1 e2 ha hpb hvb
              cases vb with
              | false =>
                go_wp2
                have CK := hid (fun W' (h : Kept [] W W') => (show W'.cell? ⟨w.heap.size, 3, none⟩ = some (.slice sa d.length scap) from by have hb := h.same HB.out (by simp); rw [cell_of_block hb]; rfl))
                have NB := hid (new_block W (Obj.cells #[.int .i64 3, .int .i64 b, .string (bs c), .slice sa d.length scap, .slice a4 ks.length cap] 26))
                go_region_held3 (fun w' => w'.cell? ⟨w.heap.size, 3, none⟩ = some (.slice sa d.length scap))
                  (first
                    | go_keep
                    | exact CK.out _ (by repeat' with_reducible first | exact hKK | exact Kept.refl _ _ | refine Kept.setCell ?_ _ _ (by simp) | refine Kept.drew ?_ | refine Kept.alloc ?_ _))
                  (first
                    | (go_at_call 56
                       with_reducible refine (HCA.out _ ?_).mono ?_
                       · refine HKW0.out.trans ?_
                         repeat' with_reducible first | exact Kept.refl _ _ | refine Kept.setCell ?_ _ _ (by simp) | refine Kept.drew ?_ | refine Kept.alloc ?_ _
                       rintro e w1 ⟨rfl, hK1⟩
                       have hKK : Kept [] W w1 := Kept.trans (by repeat' with_reducible first | exact Kept.refl _ _ | refine Kept.setCell ?_ _ _ (by simp) | refine Kept.drew ?_ | refine Kept.alloc ?_ _) hK1
                       have hr := hK1.same NB.out (by simp)
                       have hrl := lt_of_block hr
                       have r0 := cell_of_block hr 1
                       have r1 := cell_of_block hr 2
                       have r2 := cell_of_block hr 3
                       have s0 := frozen_of_block hr 1
                       have s1 := frozen_of_block hr 2
                       have s2 := frozen_of_block hr 3
                       simp at r0 r1 r2))
                all_goals
                  refine gen_world (fun W2 => W2.heap[W.heap.size]? = some (.cells #[.int .i64 3, .int .i64 b, .string (bs c), .slice none 0 0, .slice a4 ks.length cap] 26 (0, 0)) ∧ Kept [] W W2) ⟨by have := set_of_block (i := 3) hr (Value.slice none 0 0); simpa using this, by repeat' with_reducible first | exact hKK | refine Kept.setCell ?_ _ _ (by simp) | refine Kept.drew ?_ | refine Kept.drewN ?_ _⟩ ?_
                  rintro W2 ⟨hR2, hKW2⟩
                  have r0 := cell_of_block hR2 0
                  have r1 := cell_of_block hR2 1
                  have r2 := cell_of_block hR2 2
                  have r3 := cell_of_block hR2 3
                  have r4 := cell_of_block hR2 4
                  simp at r0 r1 r2 r3 r4
                  have hz2 := hKW2.same HB.out (by simp)
                  have z0 := cell_of_block hz2 0
                  have z1 := cell_of_block hz2 1
                  have z2 := cell_of_block hz2 2
                  have z3 := cell_of_block hz2 3
                  have z4 := cell_of_block hz2 4
                  simp at z0 z1 z2 z3 z4
                  have hzl := lt_of_block hz2
                  have HKW := hid hKW2
                  clear hR2 hKW2 hz2 hr hKK hK1 CK NB
                  go_wp2
                  go_ret2
                  refine ⟨_, false, rfl, HKP.out.trans ?_, by rw [HBD.out, if_neg (by first | (rw [HNO.out]; simp; done) | (rw [HNO.out, HKD.out]; simp; done))]⟩
                  repeat' with_reducible first | exact HKW.out.nil | exact Kept.refl _ _ | refine Kept.alloc ?_ _ | refine Kept.drewN ?_ _ | refine Kept.drew ?_ | refine Kept.setCell ?_ _ _ (by simp) | refine Kept.trans ?_ hK1.nil
              | true =>
                go_wp2
                have CK := hid (fun W' (h : Kept [] W W') => (show W'.cell? ⟨w.heap.size, 3, none⟩ = some (.slice sa d.length scap) from by have hb := h.same HB.out (by simp); rw [cell_of_block hb]; rfl))
                have NB := hid (new_block W (Obj.cells #[.int .i64 3, .int .i64 b, .string (bs c), .slice sa d.length scap, .slice a4 ks.length cap] 26))
                go_region_held3 (fun w' => w'.cell? ⟨w.heap.size, 3, none⟩ = some (.slice sa d.length scap))
                  (first
                    | go_keep
                    | exact CK.out _ (by repeat' with_reducible first | exact hKK | exact Kept.refl _ _ | refine Kept.setCell ?_ _ _ (by simp) | refine Kept.drew ?_ | refine Kept.alloc ?_ _))
                  (first
                    | (go_at_call 56
                       with_reducible refine (HCA.out _ ?_).mono ?_
                       · refine HKW0.out.trans ?_
                         repeat' with_reducible first | exact Kept.refl _ _ | refine Kept.setCell ?_ _ _ (by simp) | refine Kept.drew ?_ | refine Kept.alloc ?_ _
                       rintro e w1 ⟨rfl, hK1⟩
                       have hKK : Kept [] W w1 := Kept.trans (by repeat' with_reducible first | exact Kept.refl _ _ | refine Kept.setCell ?_ _ _ (by simp) | refine Kept.drew ?_ | refine Kept.alloc ?_ _) hK1
                       have hr := hK1.same NB.out (by simp)
                       have hrl := lt_of_block hr
                       have r0 := cell_of_block hr 1
                       have r1 := cell_of_block hr 2
                       have r2 := cell_of_block hr 3
                       have s0 := frozen_of_block hr 1
                       have s1 := frozen_of_block hr 2
                       have s2 := frozen_of_block hr 3
                       simp at r0 r1 r2))
                all_goals
                  refine gen_world (fun W2 => W2.heap[W.heap.size]? = some (.cells #[.int .i64 3, .int .i64 b, .string (bs c), .slice none 0 0, .slice a4 ks.length cap] 26 (0, 0)) ∧ Kept [] W W2) ⟨by have := set_of_block (i := 3) hr (Value.slice none 0 0); simpa using this, by repeat' with_reducible first | exact hKK | refine Kept.setCell ?_ _ _ (by simp) | refine Kept.drew ?_ | refine Kept.drewN ?_ _⟩ ?_
                  rintro W2 ⟨hR2, hKW2⟩
                  have r0 := cell_of_block hR2 0
                  have r1 := cell_of_block hR2 1
                  have r2 := cell_of_block hR2 2
                  have r3 := cell_of_block hR2 3
                  have r4 := cell_of_block hR2 4
                  simp at r0 r1 r2 r3 r4
                  have hz2 := hKW2.same HB.out (by simp)
                  have z0 := cell_of_block hz2 0
                  have z1 := cell_of_block hz2 1
                  have z2 := cell_of_block hz2 2
                  have z3 := cell_of_block hz2 3
                  have z4 := cell_of_block hz2 4
                  simp at z0 z1 z2 z3 z4
                  have hzl := lt_of_block hz2
                  have HKW := hid hKW2
                  clear hR2 hKW2 hz2 hr hKK hK1 CK NB
                  by_cases hk : ks.length = 0
                  · have hk' : ((ks.length : Int) != 0) = false := by simp [hk]
                    have HK := hid hk
                    have hk0 : decide (ks.length = 0) = true := by rw [decide_eq_true_eq]; exact hk
                    have HKD := hid hk0
                    clear hk hk0
                    cases pb with
                    | true =>
                      go_wp2_with (go_at_call 57; refine (HPL.out _).mono ?_; rintro e w1 ⟨rfl, hK1⟩)
                      have hkd := HKD.out
                      go_ret2
                      refine bld_done HKP.out HRB.out ?_ (by rw [HBD.out, if_pos (by rw [HNO.out, HKD.out]; rfl)]) (by unfold NodeAt; exact .inr (.inr (.inr (.inl ⟨rfl, _, rfl, HSP.out⟩))))
                      repeat' with_reducible first | exact HKW.out | exact Kept.refl _ _ | refine Kept.alloc ?_ _ | refine Kept.drewN ?_ _ | refine Kept.drew ?_ | refine Kept.trans ?_ hK1
                    | false =>
                      go_wp2_with (go_at_call 57; refine (HPL.out _).mono ?_; rintro e w1 ⟨rfl, hK1⟩)
                      go_ret2
                      refine ⟨_, false, rfl, HKP.out.trans ?_, by rw [HBD.out, if_neg (by first | (rw [HNO.out]; simp; done) | (rw [HNO.out, HKD.out]; simp; done))]⟩
                      repeat' with_reducible first | exact HKW.out.nil | exact Kept.refl _ _ | refine Kept.alloc ?_ _ | refine Kept.drewN ?_ _ | refine Kept.drew ?_ | refine Kept.setCell ?_ _ _ (by simp) | refine Kept.trans ?_ hK1.nil
                  · have hk' : ((ks.length : Int) != 0) = true := by simp [hk]
                    have hk0 : decide (ks.length = 0) = false := by rw [decide_eq_false_iff_not]; exact hk
                    have HKD := hid hk0
                    clear hk hk0
                    go_wp2
                    have hkd := HKD.out
                    go_ret2
                    refine ⟨_, false, rfl, HKP.out.trans ?_, by rw [HBD.out, if_neg (by first | (rw [HNO.out]; simp; done) | (rw [HNO.out, HKD.out]; simp; done))]⟩
                    repeat' with_reducible first | exact HKW.out.nil | exact Kept.refl _ _ | refine Kept.alloc ?_ _ | refine Kept.drewN ?_ _ | refine Kept.drew ?_ | refine Kept.setCell ?_ _ _ (by simp) | refine Kept.trans ?_ hK1.nil
            · obtain rfl : a = 4 := by omega
              have HPL := hid (fun W => keyPlain_any 4 b c none 0 (.slice a4 ks.length cap) 0 W)
              have HNO := hid (nodeOk_3 4 b (by decide) c d ks.length)
              obtain ⟨pb, hpb⟩ : ∃ pb, ((decide (b = 0) && decide (c.length = 0)) && decide ((0 : Nat) = 0)) = pb := ⟨_, rfl⟩
              obtain ⟨vb, hvb⟩ : ∃ vb, setOk d = vb := ⟨_, rfl⟩
              have HCA := hid (fun W' (hW : Kept [] w0 W') => iSetValid_any lo (.slice sa d.length scap) d W' (HSP.out.kept0 hW))
              have HKW0 := hid (HK0.out.newB HKP.out hp)
              rw [hpb] at HPL
              rw [show ((decide (b = 0) && decide (c.length = 0)) && decide (([] : List (Int × Int)).length = 0)) = pb from hpb] at HNO
              rw [hvb] at HNO HCA
              clear an e0 e1 e2 ha hpb hvb
              cases vb with
              | false =>
                go_wp2
                have CK := hid (fun W' (h : Kept [] W W') => (show W'.cell? ⟨w.heap.size, 3, none⟩ = some (.slice sa d.length scap) from by have hb := h.same HB.out (by simp); rw [cell_of_block hb]; rfl))
                have NB := hid (new_block W (Obj.cells #[.int .i64 4, .int .i64 b, .string (bs c), .slice sa d.length scap, .slice a4 ks.length cap] 26))
                go_region_held3 (fun w' => w'.cell? ⟨w.heap.size, 3, none⟩ = some (.slice sa d.length scap))
                  (first
                    | go_keep
                    | exact CK.out _ (by repeat' with_reducible first | exact hKK | exact Kept.refl _ _ | refine Kept.setCell ?_ _ _ (by simp) | refine Kept.drew ?_ | refine Kept.alloc ?_ _))
                  (first
                    | (go_at_call 56
                       with_reducible refine (HCA.out _ ?_).mono ?_
                       · refine HKW0.out.trans ?_
                         repeat' with_reducible first | exact Kept.refl _ _ | refine Kept.setCell ?_ _ _ (by simp) | refine Kept.drew ?_ | refine Kept.alloc ?_ _
                       rintro e w1 ⟨rfl, hK1⟩
                       have hKK : Kept [] W w1 := Kept.trans (by repeat' with_reducible first | exact Kept.refl _ _ | refine Kept.setCell ?_ _ _ (by simp) | refine Kept.drew ?_ | refine Kept.alloc ?_ _) hK1
                       have hr := hK1.same NB.out (by simp)
                       have hrl := lt_of_block hr
                       have r0 := cell_of_block hr 1
                       have r1 := cell_of_block hr 2
                       have r2 := cell_of_block hr 3
                       have s0 := frozen_of_block hr 1
                       have s1 := frozen_of_block hr 2
                       have s2 := frozen_of_block hr 3
                       simp at r0 r1 r2))
                all_goals
                  refine gen_world (fun W2 => W2.heap[W.heap.size]? = some (.cells #[.int .i64 4, .int .i64 b, .string (bs c), .slice none 0 0, .slice a4 ks.length cap] 26 (0, 0)) ∧ Kept [] W W2) ⟨by have := set_of_block (i := 3) hr (Value.slice none 0 0); simpa using this, by repeat' with_reducible first | exact hKK | refine Kept.setCell ?_ _ _ (by simp) | refine Kept.drew ?_ | refine Kept.drewN ?_ _⟩ ?_
                  rintro W2 ⟨hR2, hKW2⟩
                  have r0 := cell_of_block hR2 0
                  have r1 := cell_of_block hR2 1
                  have r2 := cell_of_block hR2 2
                  have r3 := cell_of_block hR2 3
                  have r4 := cell_of_block hR2 4
                  simp at r0 r1 r2 r3 r4
                  have hz2 := hKW2.same HB.out (by simp)
                  have z0 := cell_of_block hz2 0
                  have z1 := cell_of_block hz2 1
                  have z2 := cell_of_block hz2 2
                  have z3 := cell_of_block hz2 3
                  have z4 := cell_of_block hz2 4
                  simp at z0 z1 z2 z3 z4
                  have hzl := lt_of_block hz2
                  have HKW := hid hKW2
                  clear hR2 hKW2 hz2 hr hKK hK1 CK NB
                  go_wp2
                  go_ret2
                  refine ⟨_, false, rfl, HKP.out.trans ?_, by rw [HBD.out, if_neg (by first | (rw [HNO.out]; simp; done) | (rw [HNO.out, HKD.out]; simp; done))]⟩
                  repeat' with_reducible first | exact HKW.out.nil | exact Kept.refl _ _ | refine Kept.alloc ?_ _ | refine Kept.drewN ?_ _ | refine Kept.drew ?_ | refine Kept.setCell ?_ _ _ (by simp) | refine Kept.trans ?_ hK1.nil
              | true =>
                go_wp2
                have CK := hid (fun W' (h : Kept [] W W') => (show W'.cell? ⟨w.heap.size, 3, none⟩ = some (.slice sa d.length scap) from by have hb := h.same HB.out (by simp); rw [cell_of_block hb]; rfl))
                have NB := hid (new_block W (Obj.cells #[.int .i64 4, .int .i64 b, .string (bs c), .slice sa d.length scap, .slice a4 ks.length cap] 26))
                go_region_held3 (fun w' => w'.cell? ⟨w.heap.size, 3, none⟩ = some (.slice sa d.length scap))
                  (first
                    | go_keep
                    | exact CK.out _ (by repeat' with_reducible first | exact hKK | exact Kept.refl _ _ | refine Kept.setCell ?_ _ _ (by simp) | refine Kept.drew ?_ | refine Kept.alloc ?_ _))
                  (first
                    | (go_at_call 56
                       with_reducible refine (HCA.out _ ?_).mono ?_
                       · refine HKW0.out.trans ?_
                         repeat' with_reducible first | exact Kept.refl _ _ | refine Kept.setCell ?_ _ _ (by simp) | refine Kept.drew ?_ | refine Kept.alloc ?_ _
                       rintro e w1 ⟨rfl, hK1⟩
                       have hKK : Kept [] W w1 := Kept.trans (by repeat' with_reducible first | exact Kept.refl _ _ | refine Kept.setCell ?_ _ _ (by simp) | refine Kept.drew ?_ | refine Kept.alloc ?_ _) hK1
                       have hr := hK1.same NB.out (by simp)
                       have hrl := lt_of_block hr
                       have r0 := cell_of_block hr 1
                       have r1 := cell_of_block hr 2
                       have r2 := cell_of_block hr 3
                       have s0 := frozen_of_block hr 1
                       have s1 := frozen_of_block hr 2
                       have s2 := frozen_of_block hr 3
                       simp at r0 r1 r2))
                all_goals
                  refine gen_world (fun W2 => W2.heap[W.heap.size]? = some (.cells #[.int .i64 4, .int .i64 b, .string (bs c), .slice none 0 0, .slice a4 ks.length cap] 26 (0, 0)) ∧ Kept [] W W2) ⟨by have := set_of_block (i := 3) hr (Value.slice none 0 0); simpa using this, by repeat' with_reducible first | exact hKK | refine Kept.setCell ?_ _ _ (by simp) | refine Kept.drew ?_ | refine Kept.drewN ?_ _⟩ ?_
                  rintro W2 ⟨hR2, hKW2⟩
                  have r0 := cell_of_block hR2 0
                  have r1 := cell_of_block hR2 1
                  have r2 := cell_of_block hR2 2
                  have r3 := cell_of_block hR2 3
                  have r4 := cell_of_block hR2 4
                  simp at r0 r1 r2 r3 r4
                  have hz2 := hKW2.same HB.out (by simp)
                  have z0 := cell_of_block hz2 0
                  have z1 := cell_of_block hz2 1
                  have z2 := cell_of_block hz2 2
                  have z3 := cell_of_block hz2 3
                  have z4 := cell_of_block hz2 4
                  simp at z0 z1 z2 z3 z4
                  have hzl := lt_of_block hz2
                  have HKW := hid hKW2
                  clear hR2 hKW2 hz2 hr hKK hK1 CK NB
                  by_cases hk : ks.length = 0
                  · have hk' : ((ks.length : Int) != 0) = false := by simp [hk]
                    have HK := hid hk
                    have hk0 : decide (ks.length = 0) = true := by rw [decide_eq_true_eq]; exact hk
                    have HKD := hid hk0
                    clear hk hk0
                    cases pb with
                    | true =>
                      go_wp2_with (go_at_call 57; refine (HPL.out _).mono ?_; rintro e w1 ⟨rfl, hK1⟩)
                      have hkd := HKD.out
                      go_ret2
                      refine bld_done HKP.out HRB.out ?_ (by rw [HBD.out, if_pos (by rw [HNO.out, HKD.out]; rfl)]) (by unfold NodeAt; exact .inr (.inr (.inr (.inr (.inl ⟨rfl, _, rfl, HSP.out⟩)))))
                      repeat' with_reducible first | exact HKW.out | exact Kept.refl _ _ | refine Kept.alloc ?_ _ | refine Kept.drewN ?_ _ | refine Kept.drew ?_ | refine Kept.trans ?_ hK1
                    | false =>
                      go_wp2_with (go_at_call 57; refine (HPL.out _).mono ?_; rintro e w1 ⟨rfl, hK1⟩)
                      go_ret2
                      refine ⟨_, false, rfl, HKP.out.trans ?_, by rw [HBD.out, if_neg (by first | (rw [HNO.out]; simp; done) | (rw [HNO.out, HKD.out]; simp; done))]⟩
                      repeat' with_reducible first | exact HKW.out.nil | exact Kept.refl _ _ | refine Kept.alloc ?_ _ | refine Kept.drewN ?_ _ | refine Kept.drew ?_ | refine Kept.setCell ?_ _ _ (by simp) | refine Kept.trans ?_ hK1.nil
                  · have hk' : ((ks.length : Int) != 0) = true := by simp [hk]
                    have hk0 : decide (ks.length = 0) = false := by rw [decide_eq_false_iff_not]; exact hk
                    have HKD := hid hk0
                    clear hk hk0
                    go_wp2
                    have hkd := HKD.out
                    go_ret2
                    refine ⟨_, false, rfl, HKP.out.trans ?_, by rw [HBD.out, if_neg (by first | (rw [HNO.out]; simp; done) | (rw [HNO.out, HKD.out]; simp; done))]⟩
                    repeat' with_reducible first | exact HKW.out.nil | exact Kept.refl _ _ | refine Kept.alloc ?_ _ | refine Kept.drewN ?_ _ | refine Kept.drew ?_ | refine Kept.setCell ?_ _ _ (by simp) | refine Kept.trans ?_ hK1.nil
end Go.Proofs.YtoleonldkifcbaaGreatDoor
