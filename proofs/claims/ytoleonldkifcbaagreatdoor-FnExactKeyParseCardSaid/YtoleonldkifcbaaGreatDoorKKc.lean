/- The walks of the reader of keys (impl). -/
import Derived.Test.YtoleonldkifcbaaGreatDoorKKb
import Derived.Deep.AppendLies
namespace Go.Proofs.YtoleonldkifcbaaGreatDoor
open Go.RowKit

/-- A set in memory of its own, in the blocks from lo to hi. -/
def SpansX (lo hi : Nat) (w : World) (sv : Value) (d : List (Int × Int)) : Prop :=
  ∃ a cap b, sv = .slice a d.length cap ∧ d.length ≤ cap ∧ d.length ≤ 1000 ∧ (0 < d.length → a = some ⟨b, 0, none⟩ ∧ lo ≤ b ∧ b < hi ∧ b < w.heap.size ∧ ∃ C, w.heap[b]? = some (.cells C 85 (0, 0)) ∧ ∀ j (h : j < d.length), C[j * 2]? = some (.int .i64 d[j].1) ∧ C[j * 2 + 1]? = some (.int .i64 d[j].2))
mutual
/-- A key in memory of its own: the keys' ranges are apart from one another and from the row that holds them. -/
def KeyX (lo hi : Nat) (w : World) : Ky → Value → Value → Prop
  | .mk _ _ c d ks, sv, kv => c.length ≤ bigN ∧ SpansX lo hi w sv d ∧ (0 < ks.length → d.length = 0) ∧ ∃ a cap b, kv = .slice a ks.length cap ∧ ks.length ≤ cap ∧ ks.length ≤ 2 ∧
      (0 < ks.length → a = some ⟨b, 0, none⟩ ∧ lo ≤ b ∧ b < hi ∧ b < w.heap.size ∧ ∃ C, w.heap[b]? = some (.cells C 26 (0, 0))) ∧ KeysX lo hi w b 0 ks
def KeysX (lo hi : Nat) (w : World) : Nat → Nat → List Ky → Prop
  | _, _, [] => True
  | b, off, k :: ks => ∃ x y, lo ≤ x ∧ x ≤ y ∧ y ≤ hi ∧ (b < x ∨ y ≤ b) ∧ (∃ sv kv, w.cell? ⟨b, off, none⟩ = some (.int .i64 k.kind) ∧ w.cell? ⟨b, off + 1, none⟩ = some (.int .i64 k.flag) ∧ w.cell? ⟨b, off + 2, none⟩ = some (.string (bs k.text)) ∧
      w.cell? ⟨b, off + 3, none⟩ = some sv ∧ w.cell? ⟨b, off + 4, none⟩ = some kv ∧ KeyX x y w k sv kv) ∧ KeysX y hi w b (off + 5) ks
end
theorem SpansX.kept {lo hi : Nat} {w w' : World} {bs : List Nat} {sv : Value} {d : List (Int × Int)} (h : SpansX lo hi w sv d) (K : Kept bs w w') (hb : ∀ b ∈ bs, b < lo ∨ hi ≤ b) : SpansX lo hi w' sv d := by
  obtain ⟨a, cap, b, h1, h2, h3, h4⟩ := h
  refine ⟨a, cap, b, h1, h2, h3, fun h0 => ?_⟩
  obtain ⟨g1, g2, g3, g4, C, g5, g6⟩ := h4 h0
  exact ⟨g1, g2, g3, Nat.lt_of_lt_of_le g4 K.size, C, K.same g5 (fun e => by rcases hb b e with h | h <;> omega), g6⟩
theorem SpansX.wide {lo hi lo' hi' : Nat} {w : World} {sv : Value} {d : List (Int × Int)} (h : SpansX lo hi w sv d) (hl : lo' ≤ lo) (hh : hi ≤ hi') : SpansX lo' hi' w sv d := by
  obtain ⟨a, cap, b, h1, h2, h3, h4⟩ := h
  refine ⟨a, cap, b, h1, h2, h3, fun h0 => ?_⟩
  obtain ⟨g1, g2, g3, r⟩ := h4 h0
  exact ⟨g1, by omega, by omega, r⟩
theorem SpansX.at_ {lo hi : Nat} {w : World} {sv : Value} {d : List (Int × Int)} (h : SpansX lo hi w sv d) : SpansAt lo w sv d := by
  obtain ⟨a, cap, b, h1, h2, h3, h4⟩ := h
  refine ⟨a, cap, b, 0, h1, by unfold bigN; omega, h2, fun h0 => ?_, fun j hj => ?_⟩
  · obtain ⟨g1, g2, g3, g4, -⟩ := h4 h0; exact ⟨g1, g2, g4⟩
  · obtain ⟨g1, g2, g3, g4, C, g5, g6⟩ := h4 (by omega)
    rw [Nat.zero_add, cell_of_block g5, cell_of_block g5]
    exact g6 j hj
mutual
theorem KeyX.kept {lo hi : Nat} {w w' : World} {bs : List Nat} (K : Kept bs w w') (hb : ∀ b ∈ bs, b < lo ∨ hi ≤ b) (k : Ky) (sv kv : Value) (h : KeyX lo hi w k sv kv) : KeyX lo hi w' k sv kv := by
  match k with
  | .mk x y c d ks =>
    unfold KeyX at h ⊢
    obtain ⟨h1, h2, h3, a, cap, b, h4, h5, h6, h7, h8⟩ := h
    refine ⟨h1, h2.kept K hb, h3, a, cap, b, h4, h5, h6, fun h0 => ?_, ?_⟩
    · obtain ⟨g1, g2, g3, g4, C, g5⟩ := h7 h0
      exact ⟨g1, g2, g3, Nat.lt_of_lt_of_le g4 K.size, C, K.same g5 (fun e => by rcases hb b e with h | h <;> omega)⟩
    · by_cases h0 : 0 < ks.length
      · obtain ⟨g1, g2, g3, -⟩ := h7 h0
        exact KeysX.kept K hb b 0 ks h8 (fun e => by rcases hb b e with h | h <;> omega)
      · have : ks = [] := List.eq_nil_of_length_eq_zero (by omega)
        subst this; unfold KeysX; trivial
theorem KeysX.kept {lo hi : Nat} {w w' : World} {bs : List Nat} (K : Kept bs w w') (hb : ∀ b ∈ bs, b < lo ∨ hi ≤ b) (b off : Nat) (ks : List Ky) (h : KeysX lo hi w b off ks) (hn : b ∉ bs) : KeysX lo hi w' b off ks := by
  match ks with
  | [] => unfold KeysX; trivial
  | k :: ks =>
    unfold KeysX at h ⊢
    obtain ⟨x, y, hx, hxy, hy, hbx, ⟨sv, kv, c0, c1, c2, c3, c4, hk⟩, hr⟩ := h
    exact ⟨x, y, hx, hxy, hy, hbx, ⟨sv, kv, K.cell_some c0 hn, K.cell_some c1 hn, K.cell_some c2 hn, K.cell_some c3 hn, K.cell_some c4 hn, KeyX.kept K (fun b hb' => by rcases hb b hb' with h | h <;> omega) k sv kv hk⟩,
      KeysX.kept K (fun b hb' => by rcases hb b hb' with h | h <;> omega) b (off + 5) ks hr hn⟩
end
mutual
theorem KeyX.in_ {lo hi : Nat} {w : World} (k : Ky) (sv kv : Value) (h : KeyX lo hi w k sv kv) : KeyIn lo w k sv kv := by
  match k with
  | .mk x y c d ks =>
    unfold KeyX at h
    unfold KeyIn
    obtain ⟨h1, h2, h3, a, cap, b, h4, h5, h6, h7, h8⟩ := h
    refine ⟨h1, h2.at_, a, cap, b, 0, h4, by unfold bigN; omega, h5, fun h0 => ?_, KeysX.in_ b 0 ks h8⟩
    obtain ⟨g1, g2, g3, g4, -⟩ := h7 h0
    exact ⟨g1, g2, g4⟩
theorem KeysX.in_ {lo hi : Nat} {w : World} (b off : Nat) (ks : List Ky) (h : KeysX lo hi w b off ks) : KeysIn lo w b off ks := by
  match ks with
  | [] => unfold KeysIn; trivial
  | k :: ks =>
    unfold KeysX at h
    unfold KeysIn
    obtain ⟨x, y, hx, hxy, hy, hbx, ⟨sv, kv, c0, c1, c2, c3, c4, hk⟩, hr⟩ := h
    exact ⟨⟨sv, kv, c0, c1, c2, c3, c4, KeyIn.low hx k sv kv (KeyX.in_ k sv kv hk)⟩, KeysIn.low (by omega) b (off + 5) ks (KeysX.in_ b (off + 5) ks hr)⟩
end
theorem KeyX.wide {lo hi lo' hi' : Nat} {w : World} {k : Ky} {sv kv : Value} (h : KeyX lo hi w k sv kv) (hl : lo' ≤ lo) (hh : hi ≤ hi') : KeyX lo' hi' w k sv kv := by
  cases k
  rename_i x y c d ks
  unfold KeyX at h ⊢
  obtain ⟨h1, h2, h3, a, cap, b, h4, h5, h6, h7, h8⟩ := h
  refine ⟨h1, h2.wide hl hh, h3, a, cap, b, h4, h5, h6, fun h0 => ?_, ?_⟩
  · obtain ⟨g1, g2, g3, r⟩ := h7 h0; exact ⟨g1, by omega, by omega, r⟩
  · clear h3 h4 h5 h6 h7 h2
    generalize 0 = off at h8
    induction ks generalizing off lo lo' with
    | nil => unfold KeysX; trivial
    | cons k ks ih =>
      unfold KeysX at h8 ⊢
      obtain ⟨x, y, hx, hxy, hy, hbx, hc, hr⟩ := h8
      exact ⟨x, y, by omega, hxy, by omega, hbx, hc, ih (Nat.le_refl y) _ hr⟩

/-- The reader of words, at rb. -/
def RdrAt (w0 w : World) (rb : Nat) (ws : List (List UInt8)) (r : Nat) : Prop :=
  ∃ a cap, w.heap[rb]? = some (.cells #[.slice a ws.length cap, .int .i64 (r : Nat)] 48 (0, 0)) ∧ StrsAt 0 w0 (.slice a ws.length cap) ws

set_option maxHeartbeats 1000000 in
theorem word_any (w0 w : World) (rb r : Nat) (ws : List (List UInt8)) (h : RdrAt w0 w rb ws r) (hK0 : Kept [] w0 w) (_hp : w0.heap.size ≤ rb) :
    Calls Tryz.prog 45 #[.pointer (some ⟨rb, 0, none⟩)] w fun e w' => e = .returned (.string (bs (ws.headD []))) ∧ Kept [rb] w w' ∧ RdrAt w0 w' rb ws.tail r := by
  obtain ⟨a, cap, hb, hs⟩ := h
  have c0 := cell_of_block hb 0
  have f0 := frozen_of_block hb 0
  simp at c0
  have HB := hid hb
  have HS := hid hs
  clear hb
  cases ws with
  | nil =>
    go_enter Tryz.func45, Tryz.ntmps45
    go_wp2
    go_ret
    exact ⟨rfl, Kept.refl _ _, a, cap, HB.out, HS.out⟩
  | cons x ws =>
    obtain ⟨a', cap', b, off, hv, hl, hcp, ha, hc⟩ := hs
    injection hv with e1 e2 e3
    subst e1 e3
    obtain ⟨rfl, -, hbw⟩ := ha (by simp)
    have hx := (hc 0 (by simp)).1
    rw [Nat.add_zero] at hx
    have hx := hK0.cell_some hx (by simp)
    simp only [List.getElem_cons_zero, List.length_cons] at hx hcp c0
    have hl1 : (0 : Int) < ws.length + 1 := by omega
    have hl2 : (1 : Int) ≤ ws.length + 1 := by omega
    have hl3 : 0 < cap := by omega
    have hl4 : ((ws.length : Int) + 1 == 0) = false := by simp; omega
    have hl5 : (((ws.length + 1 : Nat) : Int) == 0) = false := by simp; omega
    clear hc ha hl
    by_cases hc1 : cap = 1
    · subst hc1
      obtain rfl : ws = [] := List.eq_nil_of_length_eq_zero (by omega)
      go_enter Tryz.func45, Tryz.ntmps45
      go_wp2
      all_goals
        go_ret
        exact ⟨rfl, (Kept.refl _ _).setCell _ _ (by simp), _, _, set_of_block HB.out _, ⟨_, _, 0, 0, rfl, Nat.zero_le _, Nat.zero_le _, fun h => absurd h (by simp), fun j hj => absurd hj (by simp)⟩⟩
    · have hc2 : ¬ cap - 1 = 0 := by omega
      have hc3 : (1 : Int) < cap := by omega
      have hc4 : 1 < cap := by omega
      go_enter Tryz.func45, Tryz.ntmps45
      go_wp2
      go_ret
      refine ⟨rfl, (Kept.refl _ _).setCell _ _ (by simp), _, _, set_of_block HB.out _, ?_⟩
      obtain ⟨a', cap', b', off', hv, hl, hcp, ha, hc⟩ := HS.out
      injection hv with e1 e2 e3
      subst e1 e3
      have e5 := (ha (by simp)).1
      injection e5 with e5
      injection e5 with e5 e6
      subst e5 e6
      simp only [List.length_cons] at hl hcp
      refine ⟨_, _, b, off + 1, rfl, by omega, by omega, fun h0 => ⟨rfl, Nat.zero_le _, (ha (by simp)).2.2⟩, fun j hj => ?_⟩
      have := hc (j + 1) (by simp; omega)
      rw [show off + 1 + j = off + (j + 1) by omega]
      simpa using this
end Go.Proofs.YtoleonldkifcbaaGreatDoor
namespace Go.Proofs.YtoleonldkifcbaaGreatDoor
open Go.RowKit

theorem beq_bs' (a b : List UInt8) : ((bs a).toList == (bs b).toList) = decide (a = b) := by
  rw [ByteArray.toList_eq, ByteArray.toList_eq, bs_toList, bs_toList, Bool.eq_iff_iff]; simp
/-- What the word of a flag is read as. -/
def flagV (o : Option Int) : Value := match o with
  | some n => .tuple #[.agg #[.int .i64 1, .int .i64 n, .string ⟨#[]⟩, .slice none 0 0, .slice none 0 0], .bool true]
  | none => .tuple #[.agg #[.int .i64 0, .int .i64 0, .string ⟨#[]⟩, .slice none 0 0, .slice none 0 0], .bool false]

set_option maxRecDepth 100000 in
set_option maxHeartbeats 2000000 in
theorem flag_any (p : Value) (l : List UInt8) (w : World) (hF : FlagsAt w) :
    Calls Tryz.prog 48 #[p, .string (bs l)] w fun e w' => e = .returned (flagV (wordFl l)) ∧ Kept [] w w' := by
  have C0 := hid (fun W (hW : Kept [] w W) => show Calls Tryz.prog 38 #[.int .i64 1] W fun e w' => e = .returned (.string (bs tSeen)) ∧ Kept [] W w' from keyFlagWord_any 1 W (hF.kept0 hW))
  have C1 := hid (fun W (hW : Kept [] w W) => show Calls Tryz.prog 38 #[.int .i64 2] W fun e w' => e = .returned (.string (bs tAnswered)) ∧ Kept [] W w' from keyFlagWord_any 2 W (hF.kept0 hW))
  have C2 := hid (fun W (hW : Kept [] w W) => show Calls Tryz.prog 38 #[.int .i64 4] W fun e w' => e = .returned (.string (bs tFlagged)) ∧ Kept [] W w' from keyFlagWord_any 4 W (hF.kept0 hW))
  have C3 := hid (fun W (hW : Kept [] w W) => show Calls Tryz.prog 38 #[.int .i64 8] W fun e w' => e = .returned (.string (bs tDeleted)) ∧ Kept [] W w' from keyFlagWord_any 8 W (hF.kept0 hW))
  have C4 := hid (fun W (hW : Kept [] w W) => show Calls Tryz.prog 38 #[.int .i64 16] W fun e w' => e = .returned (.string (bs tDraft)) ∧ Kept [] W w' from keyFlagWord_any 16 W (hF.kept0 hW))
  have HB := hid (new_block w (Obj.cells #[.int .i64 0, .int .i64 0, .string ⟨#[]⟩, .slice none 0 0, .slice none 0 0] 26))
  have K0 := hid ((Kept.refl [] w).alloc (Obj.cells #[.int .i64 0, .int .i64 0, .string ⟨#[]⟩, .slice none 0 0, .slice none 0 0] 26))
  clear hF
  go_enter Tryz.func48, Tryz.ntmps48
  go_wp2
  go_loopg [7] 6 (fun m i wr => ∃ x : Int, i = .int .i64 x ∧ Kept [] (w.alloc (Obj.cells #[.int .i64 0, .int .i64 0, .string ⟨#[]⟩, .slice none 0 0, .slice none 0 0] 26)) wr ∧ ((x = 0 ∧ m = 6 - 0 ∧ True) ∨ (x = 1 ∧ m = 6 - 1 ∧ l ≠ tSeen ∧ True) ∨ (x = 2 ∧ m = 6 - 2 ∧ l ≠ tSeen ∧ l ≠ tAnswered ∧ True) ∨ (x = 3 ∧ m = 6 - 3 ∧ l ≠ tSeen ∧ l ≠ tAnswered ∧ l ≠ tFlagged ∧ True) ∨ (x = 4 ∧ m = 6 - 4 ∧ l ≠ tSeen ∧ l ≠ tAnswered ∧ l ≠ tFlagged ∧ l ≠ tDeleted ∧ True) ∨ (x = 5 ∧ m = 6 - 5 ∧ l ≠ tSeen ∧ l ≠ tAnswered ∧ l ≠ tFlagged ∧ l ≠ tDeleted ∧ l ≠ tDraft ∧ True)))
  case atStart => exact ⟨0, rfl, Kept.refl _ _, .inl ⟨rfl, rfl, trivial⟩⟩
  case round =>
    obtain ⟨x, rfl, hK, hx⟩ := hrel
    have HK := hid hK
    have hb := hK.same HB.out (by simp)
    clear hK
    rcases hx with ⟨rfl, rfl, hn⟩ | ⟨rfl, rfl, hn⟩ | ⟨rfl, rfl, hn⟩ | ⟨rfl, rfl, hn⟩ | ⟨rfl, rfl, hn⟩ | ⟨rfl, rfl, hn⟩
    · have HN := hid hn
      clear hn
      by_cases h : l = tSeen
      · have h' : ((bs l).toList == (bs tSeen).toList) = true := by rw [beq_bs', decide_eq_true_eq]; exact h
        have HV : Hid (wordFl l = some 1) := by show _ = _; subst h; rfl
        clear h
        go_wp2_with fail
        refine (C0.out _ (K0.out.trans HK.out)).mono ?_
        rintro e w1 ⟨rfl, hK1⟩
        have hb1 := hK1.same hb (by simp)
        have z0 := cell_of_block hb1 0
        have z1 := cell_of_block hb1 1
        have z2 := cell_of_block hb1 2
        have z3 := cell_of_block hb1 3
        have z4 := cell_of_block hb1 4
        have f0 := frozen_of_block hb1 0
        have f1 := frozen_of_block hb1 1
        have f2 := frozen_of_block hb1 2
        have f3 := frozen_of_block hb1 3
        have f4 := frozen_of_block hb1 4
        have hzl := lt_of_block hb1
        simp at z0 z1 z2 z3 z4
        clear hb1 hb
        go_wp2
        refine bodyPost_ret (v := .tuple #[.agg #[.int .i64 1, .int .i64 1, .string ⟨#[]⟩, .slice none 0 0, .slice none 0 0], .bool true]) (by simp [results, Tryz.results48, go_sem, z0, z1, z2, z3, z4]) rfl ⟨by rw [HV.out]; rfl, ?_⟩
        repeat' with_reducible first | exact (K0.out.trans HK.out).trans hK1 | refine Kept.setCell ?_ _ _ (by simp)
      · have h' : ((bs l).toList == (bs tSeen).toList) = false := by rw [beq_bs', decide_eq_false_iff_not]; exact h
        have HH := hid h
        clear h
        go_wp2_with fail
        refine (C0.out _ (K0.out.trans HK.out)).mono ?_
        rintro e w1 ⟨rfl, hK1⟩
        clear hb
        go_wp2
        go_roundg (6 - 1)
        case measure => decide
        case rel => exact ⟨1, by go_num, HK.out.trans hK1, .inr (.inl ⟨rfl, rfl, HH.out, trivial⟩)⟩
    · have HN := hid hn
      clear hn
      by_cases h : l = tAnswered
      · have h' : ((bs l).toList == (bs tAnswered).toList) = true := by rw [beq_bs', decide_eq_true_eq]; exact h
        have HV : Hid (wordFl l = some 2) := by show _ = _; subst h; rfl
        clear h
        go_wp2_with fail
        refine (C1.out _ (K0.out.trans HK.out)).mono ?_
        rintro e w1 ⟨rfl, hK1⟩
        have hb1 := hK1.same hb (by simp)
        have z0 := cell_of_block hb1 0
        have z1 := cell_of_block hb1 1
        have z2 := cell_of_block hb1 2
        have z3 := cell_of_block hb1 3
        have z4 := cell_of_block hb1 4
        have f0 := frozen_of_block hb1 0
        have f1 := frozen_of_block hb1 1
        have f2 := frozen_of_block hb1 2
        have f3 := frozen_of_block hb1 3
        have f4 := frozen_of_block hb1 4
        have hzl := lt_of_block hb1
        simp at z0 z1 z2 z3 z4
        clear hb1 hb
        go_wp2
        refine bodyPost_ret (v := .tuple #[.agg #[.int .i64 1, .int .i64 2, .string ⟨#[]⟩, .slice none 0 0, .slice none 0 0], .bool true]) (by simp [results, Tryz.results48, go_sem, z0, z1, z2, z3, z4]) rfl ⟨by rw [HV.out]; rfl, ?_⟩
        repeat' with_reducible first | exact (K0.out.trans HK.out).trans hK1 | refine Kept.setCell ?_ _ _ (by simp)
      · have h' : ((bs l).toList == (bs tAnswered).toList) = false := by rw [beq_bs', decide_eq_false_iff_not]; exact h
        have HH := hid h
        clear h
        go_wp2_with fail
        refine (C1.out _ (K0.out.trans HK.out)).mono ?_
        rintro e w1 ⟨rfl, hK1⟩
        clear hb
        go_wp2
        go_roundg (6 - 2)
        case measure => decide
        case rel => exact ⟨2, by go_num, HK.out.trans hK1, .inr (.inr (.inl ⟨rfl, rfl, HN.out.1, HH.out, trivial⟩))⟩
    · have HN := hid hn
      clear hn
      by_cases h : l = tFlagged
      · have h' : ((bs l).toList == (bs tFlagged).toList) = true := by rw [beq_bs', decide_eq_true_eq]; exact h
        have HV : Hid (wordFl l = some 4) := by show _ = _; subst h; rfl
        clear h
        go_wp2_with fail
        refine (C2.out _ (K0.out.trans HK.out)).mono ?_
        rintro e w1 ⟨rfl, hK1⟩
        have hb1 := hK1.same hb (by simp)
        have z0 := cell_of_block hb1 0
        have z1 := cell_of_block hb1 1
        have z2 := cell_of_block hb1 2
        have z3 := cell_of_block hb1 3
        have z4 := cell_of_block hb1 4
        have f0 := frozen_of_block hb1 0
        have f1 := frozen_of_block hb1 1
        have f2 := frozen_of_block hb1 2
        have f3 := frozen_of_block hb1 3
        have f4 := frozen_of_block hb1 4
        have hzl := lt_of_block hb1
        simp at z0 z1 z2 z3 z4
        clear hb1 hb
        go_wp2
        refine bodyPost_ret (v := .tuple #[.agg #[.int .i64 1, .int .i64 4, .string ⟨#[]⟩, .slice none 0 0, .slice none 0 0], .bool true]) (by simp [results, Tryz.results48, go_sem, z0, z1, z2, z3, z4]) rfl ⟨by rw [HV.out]; rfl, ?_⟩
        repeat' with_reducible first | exact (K0.out.trans HK.out).trans hK1 | refine Kept.setCell ?_ _ _ (by simp)
      · have h' : ((bs l).toList == (bs tFlagged).toList) = false := by rw [beq_bs', decide_eq_false_iff_not]; exact h
        have HH := hid h
        clear h
        go_wp2_with fail
        refine (C2.out _ (K0.out.trans HK.out)).mono ?_
        rintro e w1 ⟨rfl, hK1⟩
        clear hb
        go_wp2
        go_roundg (6 - 3)
        case measure => decide
        case rel => exact ⟨3, by go_num, HK.out.trans hK1, .inr (.inr (.inr (.inl ⟨rfl, rfl, HN.out.1, HN.out.2.1, HH.out, trivial⟩)))⟩
    · have HN := hid hn
      clear hn
      by_cases h : l = tDeleted
      · have h' : ((bs l).toList == (bs tDeleted).toList) = true := by rw [beq_bs', decide_eq_true_eq]; exact h
        have HV : Hid (wordFl l = some 8) := by show _ = _; subst h; rfl
        clear h
        go_wp2_with fail
        refine (C3.out _ (K0.out.trans HK.out)).mono ?_
        rintro e w1 ⟨rfl, hK1⟩
        have hb1 := hK1.same hb (by simp)
        have z0 := cell_of_block hb1 0
        have z1 := cell_of_block hb1 1
        have z2 := cell_of_block hb1 2
        have z3 := cell_of_block hb1 3
        have z4 := cell_of_block hb1 4
        have f0 := frozen_of_block hb1 0
        have f1 := frozen_of_block hb1 1
        have f2 := frozen_of_block hb1 2
        have f3 := frozen_of_block hb1 3
        have f4 := frozen_of_block hb1 4
        have hzl := lt_of_block hb1
        simp at z0 z1 z2 z3 z4
        clear hb1 hb
        go_wp2
        refine bodyPost_ret (v := .tuple #[.agg #[.int .i64 1, .int .i64 8, .string ⟨#[]⟩, .slice none 0 0, .slice none 0 0], .bool true]) (by simp [results, Tryz.results48, go_sem, z0, z1, z2, z3, z4]) rfl ⟨by rw [HV.out]; rfl, ?_⟩
        repeat' with_reducible first | exact (K0.out.trans HK.out).trans hK1 | refine Kept.setCell ?_ _ _ (by simp)
      · have h' : ((bs l).toList == (bs tDeleted).toList) = false := by rw [beq_bs', decide_eq_false_iff_not]; exact h
        have HH := hid h
        clear h
        go_wp2_with fail
        refine (C3.out _ (K0.out.trans HK.out)).mono ?_
        rintro e w1 ⟨rfl, hK1⟩
        clear hb
        go_wp2
        go_roundg (6 - 4)
        case measure => decide
        case rel => exact ⟨4, by go_num, HK.out.trans hK1, .inr (.inr (.inr (.inr (.inl ⟨rfl, rfl, HN.out.1, HN.out.2.1, HN.out.2.2.1, HH.out, trivial⟩))))⟩
    · have HN := hid hn
      clear hn
      by_cases h : l = tDraft
      · have h' : ((bs l).toList == (bs tDraft).toList) = true := by rw [beq_bs', decide_eq_true_eq]; exact h
        have HV : Hid (wordFl l = some 16) := by show _ = _; subst h; rfl
        clear h
        go_wp2_with fail
        refine (C4.out _ (K0.out.trans HK.out)).mono ?_
        rintro e w1 ⟨rfl, hK1⟩
        have hb1 := hK1.same hb (by simp)
        have z0 := cell_of_block hb1 0
        have z1 := cell_of_block hb1 1
        have z2 := cell_of_block hb1 2
        have z3 := cell_of_block hb1 3
        have z4 := cell_of_block hb1 4
        have f0 := frozen_of_block hb1 0
        have f1 := frozen_of_block hb1 1
        have f2 := frozen_of_block hb1 2
        have f3 := frozen_of_block hb1 3
        have f4 := frozen_of_block hb1 4
        have hzl := lt_of_block hb1
        simp at z0 z1 z2 z3 z4
        clear hb1 hb
        go_wp2
        refine bodyPost_ret (v := .tuple #[.agg #[.int .i64 1, .int .i64 16, .string ⟨#[]⟩, .slice none 0 0, .slice none 0 0], .bool true]) (by simp [results, Tryz.results48, go_sem, z0, z1, z2, z3, z4]) rfl ⟨by rw [HV.out]; rfl, ?_⟩
        repeat' with_reducible first | exact (K0.out.trans HK.out).trans hK1 | refine Kept.setCell ?_ _ _ (by simp)
      · have h' : ((bs l).toList == (bs tDraft).toList) = false := by rw [beq_bs', decide_eq_false_iff_not]; exact h
        have HH := hid h
        clear h
        go_wp2_with fail
        refine (C4.out _ (K0.out.trans HK.out)).mono ?_
        rintro e w1 ⟨rfl, hK1⟩
        clear hb
        go_wp2
        go_roundg (6 - 5)
        case measure => decide
        case rel => exact ⟨5, by go_num, HK.out.trans hK1, .inr (.inr (.inr (.inr (.inr (⟨rfl, rfl, HN.out.1, HN.out.2.1, HN.out.2.2.1, HN.out.2.2.2.1, HH.out, trivial⟩)))))⟩
    · have HV : Hid (wordFl l = none) := by
        show _ = _
        obtain ⟨h0, h1, h2, h3, h4, -⟩ := hn
        unfold wordFl; rw [if_neg h0, if_neg h1, if_neg h2, if_neg h3, if_neg h4]
      clear hn
      have z0 := cell_of_block hb 0
      have z1 := cell_of_block hb 1
      have z2 := cell_of_block hb 2
      have z3 := cell_of_block hb 3
      have z4 := cell_of_block hb 4
      have f0 := frozen_of_block hb 0
      have f1 := frozen_of_block hb 1
      have f2 := frozen_of_block hb 2
      have f3 := frozen_of_block hb 3
      have f4 := frozen_of_block hb 4
      have hzl := lt_of_block hb
      simp at z0 z1 z2 z3 z4
      clear hb
      go_wp2
      refine bodyPost_ret (v := .tuple #[.agg #[.int .i64 0, .int .i64 0, .string ⟨#[]⟩, .slice none 0 0, .slice none 0 0], .bool false]) (by simp [results, Tryz.results48, go_sem, z0, z1, z2, z3, z4]) rfl ⟨by rw [HV.out]; rfl, ?_⟩
      repeat' with_reducible first | exact K0.out.trans HK.out | refine Kept.setCell ?_ _ _ (by simp)
end Go.Proofs.YtoleonldkifcbaaGreatDoor
namespace Go.Proofs.YtoleonldkifcbaaGreatDoor
open Go.RowKit

theorem inf_key : (Tryz.prog.info? 26).map (fun i => (i.zero, i.size, i.bytes)) = some (some (.agg #[.int .i64 0, .int .i64 0, .string ⟨#[]⟩, .slice none 0 0, .slice none 0 0]), 5, 80) := by kernel_rfl

/-- append, with where the grown row lies: where it lay, or anew. -/
theorem append_where (T E : TypeId) (z : Value) (size bytes : Nat) (hT : Tryz.prog.underlying T = some (.slice E)) (hE : (Tryz.prog.info? E).map (fun i => (i.zero, i.size, i.bytes)) = some (some z, size, bytes))
    (hz : z.cells.size = size) (h0 : 0 < size) (h1 : bytes ≤ 1000)
    {ops : Array Oper} {rest : List Oper} {o : Oper} {a : Act} {w : World} {Q : Exit → Act → World → Prop} (hgd : o.guard = none) (s x : Operand)
    (ho : o.op = .call { callee := .builtin .append, args := #[s, x], argTypes := #[T, T] })
    (base : Nat) (v : Value) (n : Nat) (xs : List Value) (hs : a.eval s = v) (hown : w.ownsRow base E size v n xs)
    (g0 m cap0 : Nat) (news : List Value) (hx : a.eval x = .slice (some ⟨g0, 0, none⟩) m cap0) (cs : Array Value) (fz : Nat × Nat) (hb : w.heap[g0]? = some (.cells cs E fz)) (hcs : cs.toList.take (m * size) = news) (hm : news.length = m * size) (hu : ∀ u ∈ news, u.oneCell' = true) (hn : n + m ≤ bigN) (hn0 : 0 < m) (hbase : base ≤ w.heap.size)
    (h : ∀ g cap w', w'.ownsRow base E size (.slice (some ⟨g, 0, none⟩) (n + m) cap) (n + m) (xs ++ news) → w.grownBy w' v.ownBlock → (v.ownBlock = some g ∨ g = w.heap.size) → g < w'.heap.size → wpList Tryz.prog ops Q rest (a.put o.dst (.slice (some ⟨g, 0, none⟩) (n + m) cap)) w') : wpList Tryz.prog ops Q (o :: rest) a w := by
  obtain ⟨i0, hi, hz0, hz1, hz2⟩ := info_parts hE
  refine wpList_append_lies w hgd s x T ho base E i0 z size bytes hT hi hz0 hz1 hz2 hz h0 v n xs hs hown ⟨g0, 0, none⟩ m cap0 news hx hm ?_ hu hn0 ?_ ?_ hbase _ rfl h
  · intro j u hj
    rw [Addr.add_lit, Nat.zero_add, cell_of_block hb]
    rw [← hcs] at hj
    rw [List.getElem?_take] at hj
    split at hj
    · simpa using hj
    · cases hj
  · unfold bigN at hn; unfold maxLen; omega
  · unfold bigN at hn
    refine Nat.le_trans (Nat.mul_le_mul hn h1) (by decide)

theorem own_empty (w : World) (base : Nat) (e : TypeId) (size : Nat) : w.ownsRow base e size (.slice none 0 0) 0 [] := ⟨by simp, .inl ⟨rfl, rfl⟩⟩

/-- A key's cells. -/
def kcs (k : Ky) (sv kv : Value) : List Value := [.int .i64 k.kind, .int .i64 k.flag, .string (bs k.text), sv, kv]

/-- What reading a key tells. -/
def KeyRes (w0 : World) (rb : Nat) (o : Option (Ky × Nat × List (List UInt8))) (w : World) (e : Ending) (w' : World) : Prop :=
  ∃ (x y : Int) (t : ByteArray) (s1 : Option Addr) (s2 s3 : Nat) (t1 : Option Addr) (t2 t3 : Nat) (ok : Bool), e = .returned (.tuple #[.agg #[.int .i64 x, .int .i64 y, .string t, .slice s1 s2 s3, .slice t1 t2 t3], .bool ok]) ∧ Kept [rb] w w' ∧
    match o with
    | some (k, q, ws) => ok = true ∧ x = k.kind ∧ y = k.flag ∧ t = bs k.text ∧ KeyX w.heap.size w'.heap.size w' k (.slice s1 s2 s3) (.slice t1 t2 t3) ∧ RdrAt w0 w' rb ws q
    | none => ok = false
/-- Reading, out of fuel n. -/
def KeyGoes (w0 : World) (n : Nat) : Prop :=
  ∀ (rb r : Nat) (ws : List (List UInt8)) (w : World), RdrAt w0 w rb ws r → Kept [] w0 w → w0.heap.size ≤ rb → r ≤ 9 → r < n → (∀ x ∈ ws, x.length + 1 ≤ bigN) →
    Calls Tryz.prog 24 #[.pointer (some ⟨rb, 0, none⟩)] w (KeyRes w0 rb (rdK n r ws) w)

theorem RdrAt.kept {w0 w w' : World} {rb r : Nat} {ws : List (List UInt8)} {bs : List Nat} (h : RdrAt w0 w rb ws r) (K : Kept bs w w') (hb : rb ∉ bs) : RdrAt w0 w' rb ws r := by
  obtain ⟨a, cap, h1, h2⟩ := h
  exact ⟨a, cap, K.same h1 hb, h2⟩
theorem RdrAt.lt {w0 w : World} {rb r : Nat} {ws : List (List UInt8)} (h : RdrAt w0 w rb ws r) : rb < w.heap.size := by
  obtain ⟨a, cap, h1, h2⟩ := h; exact lt_of_block h1
/-- The words that are left are words of the text. -/
theorem rdK_words_left : ∀ (n r : Nat) (ws : List (List UInt8)) (k : Ky) (q : Nat) (ws' : List (List UInt8)), rdK n r ws = some (k, q, ws') → (∀ x ∈ ws', x ∈ ws) ∧ q < r := by
  intro n
  induction n with
  | zero => intro r ws k q ws' h; cases r <;> simp [rdK] at h
  | succ n ih =>
    intro r ws k q ws' h
    have htl : ∀ (l : List (List UInt8)) x, x ∈ l.tail → x ∈ l := fun l x hx => List.mem_of_mem_tail hx
    cases r with
    | zero => simp [rdK] at h
    | succ r =>
      simp only [rdK] at h
      split at h
      · rename_i kind two _
        split at h
        · cases h
        · rename_i k1 q1 r1 h1
          obtain ⟨a1, a2⟩ := ih _ _ _ _ _ h1
          split at h
          · split at h
            · cases h
            · rename_i k2 q2 r2 h2
              obtain ⟨b1, b2⟩ := ih _ _ _ _ _ h2
              injection h with h; injection h with _ h; injection h with h3 h4
              subst h3 h4
              exact ⟨fun x hx => htl _ _ (a1 _ (b1 x hx)), by omega⟩
          · injection h with h; injection h with _ h; injection h with h3 h4
            subst h3 h4
            exact ⟨fun x hx => htl _ _ (a1 x hx), by omega⟩
      · cases hl : leafI (ws.headD []) ws.tail with
        | none => rw [hl] at h; cases h
        | some x =>
          rw [hl] at h
          simp only [Option.map_some] at h
          injection h with h; injection h with _ h; injection h with h3 h4
          subst h3 h4
          refine ⟨?_, by omega⟩
          intro y hy
          unfold leafI at hl
          split at hl
          · injection hl with hl; subst hl; exact htl _ _ hy
          split at hl
          · injection hl with hl; subst hl; exact htl _ _ (htl _ _ hy)
          split at hl
          · cases hs : setP (ws.tail.headD []) with
            | none => rw [hs] at hl; cases hl
            | some s => rw [hs] at hl; injection hl with hl; subst hl; exact htl _ _ (htl _ _ hy)
          split at hl
          · cases hs : setP (ws.tail.headD []) with
            | none => rw [hs] at hl; cases hl
            | some s => rw [hs] at hl; injection hl with hl; subst hl; exact htl _ _ (htl _ _ hy)
          · cases hs : wordFl (ws.headD []) with
            | none => rw [hs] at hl; cases hl
            | some s => rw [hs] at hl; injection hl with hl; subst hl; exact htl _ _ hy
end Go.Proofs.YtoleonldkifcbaaGreatDoor
namespace Go.Proofs.YtoleonldkifcbaaGreatDoor
open Go.RowKit

/-- A node of one key, of two keys. -/
def oneO (n r : Nat) (ws : List (List UInt8)) (kind : Int) : Option (Ky × Nat × List (List UInt8)) := match rdK n r ws with | none => none | some (k1, q1, r1) => some (Ky.mk kind 0 [] [] [k1], q1, r1)
def twoO (n r : Nat) (ws : List (List UInt8)) (kind : Int) : Option (Ky × Nat × List (List UInt8)) := match rdK n r ws with | none => none | some (k1, q1, r1) => (match rdK n q1 r1 with | none => none | some (k2, q2, r2) => some (Ky.mk kind 0 [] [] [k1, k2], q2, r2))
theorem own_cell {W : World} {H g n cap : Nat} {E : TypeId} {size : Nat} {xs : List Value} (h : W.ownsRow H E size (.slice (some ⟨g, 0, none⟩) n cap) n xs) (hn : 0 < n) (j : Nat) (hj : j < n * size) : W.cell? ⟨g, j, none⟩ = xs[j]? := by
  obtain ⟨g', cap', hv, -, -, -, -, hc⟩ := own_open h hn
  injection hv with e1 e2 e3; injection e1 with e1; injection e1 with e1; subst e1
  rcases hc j with h | h
  · exact h
  · omega
theorem own_capG {W : World} {H g n m cap : Nat} {E : TypeId} {size : Nat} {xs : List Value} (h : W.ownsRow H E size (.slice (some ⟨g, 0, none⟩) m cap) n xs) : n ≤ cap := by
  rcases h.2 with ⟨hv, -⟩ | ⟨g', cap', cur, hv, -, -, hc, -⟩
  · cases hv
  · injection hv with e1 e2 e3; rw [e3]; exact hc
theorem spansX_none (lo hi : Nat) (w : World) : SpansX lo hi w (.slice none 0 0) [] := ⟨none, 0, 0, rfl, Nat.le_refl _, Nat.zero_le _, fun h => absurd h (by simp)⟩
theorem keyX_mk1 {lo A g cap x1 y1 H : Nat} {W W' : World} {k1 : Ky} {sv1 kv1 : Value} (kind : Int) (hO : W.ownsRow H 26 5 (.slice (some ⟨g, 0, none⟩) 1 cap) 1 (kcs k1 sv1 kv1)) (hX : KeyX x1 y1 W k1 sv1 kv1) (h1 : lo ≤ x1) (h2 : x1 ≤ y1) (h3 : y1 ≤ H)
    (hg : g < W.heap.size) (hK : Kept [A] W W') (hA : A < x1) : KeyX lo W'.heap.size W' (.mk kind 0 [] [] [k1]) (.slice none 0 0) (.slice (some ⟨g, 0, none⟩) 1 cap) := by
  have hH : H ≤ g := (hO.lt g rfl).1
  have hO' := own_kept hO hK (by simp; omega)
  have hX' := KeyX.kept hK (by simp; omega) k1 _ _ hX
  have hcap := own_capG hO'
  have hs := hK.size
  have c : ∀ j, j < 5 → W'.cell? ⟨g, 0 + j, none⟩ = (kcs k1 sv1 kv1)[j]? := fun j hj => by rw [Nat.zero_add]; exact own_cell hO' (by omega) j (by omega)
  obtain ⟨C, hC⟩ := own_block hO'
  unfold KeyX
  refine ⟨Nat.zero_le _, spansX_none _ _ _, fun _ => rfl, _, cap, g, rfl, hcap, by simp, fun _ => ⟨rfl, by omega, by omega, by omega, C, hC⟩, ?_⟩
  unfold KeysX KeysX
  exact ⟨x1, y1, h1, h2, by omega, .inr (by omega), ⟨sv1, kv1, c 0 (by omega), c 1 (by omega), c 2 (by omega), c 3 (by omega), c 4 (by omega), hX'⟩, trivial⟩
theorem keyX_mk2 {lo A g cap x1 y1 x2 y2 H : Nat} {W W' : World} {k1 k2 : Ky} {sv1 kv1 sv2 kv2 : Value} (kind : Int) (hO : W.ownsRow H 26 5 (.slice (some ⟨g, 0, none⟩) 2 cap) 2 (kcs k1 sv1 kv1 ++ kcs k2 sv2 kv2)) (hX : KeyX x1 y1 W k1 sv1 kv1) (hX2 : KeyX x2 y2 W k2 sv2 kv2)
    (h1 : lo ≤ x1) (h2 : x1 ≤ y1) (h3 : y1 ≤ H) (h4 : y1 ≤ x2) (h5 : x2 ≤ y2) (h6 : y2 ≤ W.heap.size) (h7 : g < x2 ∨ y2 ≤ g)
    (hg : g < W.heap.size) (hK : Kept [A] W W') (hA : A < x1) : KeyX lo W'.heap.size W' (.mk kind 0 [] [] [k1, k2]) (.slice none 0 0) (.slice (some ⟨g, 0, none⟩) 2 cap) := by
  have hH : H ≤ g := (hO.lt g rfl).1
  have hO' := own_kept hO hK (by simp; omega)
  have hX' := KeyX.kept hK (by simp; omega) k1 _ _ hX
  have hX2' := KeyX.kept hK (by simp; omega) k2 _ _ hX2
  have hcap := own_capG hO'
  have hs := hK.size
  have c : ∀ j, j < 10 → W'.cell? ⟨g, 0 + j, none⟩ = (kcs k1 sv1 kv1 ++ kcs k2 sv2 kv2)[j]? := fun j hj => by rw [Nat.zero_add]; exact own_cell hO' (by omega) j (by omega)
  obtain ⟨C, hC⟩ := own_block hO'
  unfold KeyX
  refine ⟨Nat.zero_le _, spansX_none _ _ _, fun _ => rfl, _, cap, g, rfl, hcap, by simp, fun _ => ⟨rfl, by omega, by omega, by omega, C, hC⟩, ?_⟩
  unfold KeysX KeysX KeysX
  exact ⟨x1, y1, h1, h2, by omega, .inr (by omega), ⟨sv1, kv1, c 0 (by omega), c 1 (by omega), c 2 (by omega), c 3 (by omega), c 4 (by omega), hX'⟩,
    x2, y2, h4, h5, by omega, h7, ⟨sv2, kv2, c 5 (by omega), c 6 (by omega), c 7 (by omega), c 8 (by omega), c 9 (by omega), hX2'⟩, trivial⟩

set_option maxRecDepth 100000 in
set_option maxHeartbeats 4000000 in
theorem keys_one (w0 : World) (n : Nat) (hG : KeyGoes w0 n) (kind : Int) (rb r : Nat) (ws : List (List UInt8)) (w : World) (h : RdrAt w0 w rb ws r) (hK0 : Kept [] w0 w) (hp : w0.heap.size ≤ rb) (hr9 : r ≤ 9) (hrn : r < n) (hws : ∀ x ∈ ws, x.length + 1 ≤ bigN) :
    Calls Tryz.prog 47 #[.pointer (some ⟨rb, 0, none⟩), .int .i64 kind, .int .i64 1] w (KeyRes w0 rb (oneO n r ws kind) w) := by
  have hlt := h.lt
  have HR0 := hid h
  have HK0 := hid hK0
  have HG := hid (hG rb)
  have HWS := hid hws
  obtain ⟨o, ho⟩ : ∃ o, (oneO n r ws kind) = o := ⟨_, rfl⟩
  rw [ho]
  have HO := hid ho
  clear ho h hK0 hG hws
  have HA := hid (alloc_block (new_block w (Obj.cells #[.int .i64 0, .int .i64 0, .string ⟨#[]⟩, .slice none 0 0, .slice none 0 0] 26)) (Obj.cells #[.int .i64 kind, .int .i64 0, .string ⟨#[]⟩, .slice none 0 0, .slice none 0 0] 26))
  have HB := hid (new_block2 w (Obj.cells #[.int .i64 0, .int .i64 0, .string ⟨#[]⟩, .slice none 0 0, .slice none 0 0] 26) (Obj.cells #[.int .i64 kind, .int .i64 0, .string ⟨#[]⟩, .slice none 0 0, .slice none 0 0] 26))
  have HKA := hid (((Kept.refl [] w).alloc (Obj.cells #[.int .i64 0, .int .i64 0, .string ⟨#[]⟩, .slice none 0 0, .slice none 0 0] 26)).alloc (Obj.cells #[.int .i64 kind, .int .i64 0, .string ⟨#[]⟩, .slice none 0 0, .slice none 0 0] 26))
  go_enter Tryz.func47, Tryz.ntmps47
  go_wp2
  go_loopg [14] 2 (fun m i W => (m = 2 ∧ i = .int .i64 0 ∧ W = (w.alloc (Obj.cells #[.int .i64 0, .int .i64 0, .string ⟨#[]⟩, .slice none 0 0, .slice none 0 0] 26)).alloc (Obj.cells #[.int .i64 kind, .int .i64 0, .string ⟨#[]⟩, .slice none 0 0, .slice none 0 0] 26)) ∨
    (m = 1 ∧ i = .int .i64 1 ∧ ∃ (k1 : Ky) (q1 : Nat) (r1 : List (List UInt8)) (g cap x1 y1 H : Nat) (sv1 kv1 : Value), rdK n r ws = some (k1, q1, r1) ∧ RdrAt w0 W rb r1 q1 ∧ W.heap[w.heap.size]? = some (.cells #[.int .i64 0, .int .i64 0, .string ⟨#[]⟩, .slice none 0 0, .slice none 0 0] 26 (0, 0)) ∧ W.heap[w.heap.size + 1]? = some (.cells #[.int .i64 kind, .int .i64 0, .string ⟨#[]⟩, .slice none 0 0, .slice (some ⟨g, 0, none⟩) 1 cap] 26 (0, 0)) ∧
      W.ownsRow H 26 5 (.slice (some ⟨g, 0, none⟩) 1 cap) 1 (kcs k1 sv1 kv1) ∧ KeyX x1 y1 W k1 sv1 kv1 ∧ w.heap.size + 2 ≤ x1 ∧ x1 ≤ y1 ∧ y1 ≤ H ∧ g < W.heap.size ∧ Kept [rb] w W))
  case atStart => exact .inl ⟨rfl, rfl, rfl⟩
  case round =>
    rcases hrel with ⟨rfl, rfl, rfl⟩ | ⟨rfl, rfl, k1, q1, r1, g, cap, x1, y1, H, sv1, kv1, e1, hR1, hA1, hB1, hO1, hX1, hx1, hxy1, hyH, hgl, hKW⟩
    · have HC := hid (HG.out r ws _ (HR0.out.kept HKA.out (by simp)) (HK0.out.trans HKA.out) hp hr9 hrn HWS.out)
      have HAx := HA
      have HBx := HB
      have HKx : Hid (Kept [rb] w _) := HKA.out.nil
      go_wp2_with fail
      refine HC.out.mono ?_
      rintro e w2 ⟨x, y, tt, s1, s2, s3, t1, t2, t3, ok, rfl, hK2, hres⟩
      have hA2 := hK2.same HAx.out (by simp; omega)
      have hB2 := hK2.same HBx.out (by simp; omega)
      have a0 := cell_of_block hA2 0
      have a1 := cell_of_block hA2 1
      have a2 := cell_of_block hA2 2
      have a3 := cell_of_block hA2 3
      have a4 := cell_of_block hA2 4
      simp at a0 a1 a2 a3 a4
      have f0 := frozen_of_block hA2 0
      have f1 := frozen_of_block hA2 1
      have f2 := frozen_of_block hA2 2
      have f3 := frozen_of_block hA2 3
      have f4 := frozen_of_block hA2 4
      have b0 := cell_of_block hB2 0
      have b1 := cell_of_block hB2 1
      have b2 := cell_of_block hB2 2
      have b3 := cell_of_block hB2 3
      have b4 := cell_of_block hB2 4
      simp at b0 b1 b2 b3 b4
      have h0 := frozen_of_block hB2 0
      have h1 := frozen_of_block hB2 1
      have h2 := frozen_of_block hB2 2
      have h3 := frozen_of_block hB2 3
      have h4 := frozen_of_block hB2 4
      have hal := lt_of_block hA2
      have hbl := lt_of_block hB2
      have HA2 := hid hA2
      have HB2 := hid hB2
      have HK2 := hid hK2
      have HKW2 := hid (HKx.out.trans hK2)
      clear hA2 hB2 hK2
      cases hrd : rdK n r ws with
      | none =>
        rw [hrd] at hres
        dsimp only at hres
        subst hres
        have HN : Hid (o = none) := by show _ = _; rw [← HO.out, oneO, hrd]
        clear hrd
        go_wp2
        refine bodyPost_ret (v := .tuple #[.agg #[.int .i64 0, .int .i64 0, .string ⟨#[]⟩, .slice none 0 0, .slice none 0 0], .bool false]) (by simp [results, Tryz.results47, go_sem, a0, a1, a2, a3, a4, hal]) rfl ?_
        refine ⟨_, _, _, _, _, _, _, _, _, _, rfl, ?_, by rw [HN.out]⟩
        repeat' with_reducible first | exact HKW2.out | refine Kept.alloc ?_ _ | refine Kept.setCell ?_ _ _ (by first | (simp; done) | (simp; omega))
      | some kq =>
        obtain ⟨k1, q1, r1⟩ := kq
        rw [hrd] at hres
        obtain ⟨rfl, rfl, rfl, rfl, hX, hR⟩ := hres
        have HE := hid hrd
        have HX := hid hX
        have HR := hid hR
        have hrl := hR.lt
        clear hrd hX hR
        go_wp2_with (at_builtin; refine append_where 24 26 _ 5 80 Tryz.underlying24 inf_key rfl (by decide) (by decide) rfl (.tmp 25) (.tmp 27) rfl (w2.heap.size + 2) (.slice none 0 0) 0 [] rfl (own_empty _ _ _ _) (w2.heap.size + 1) 1 1 (kcs k1 (.slice s1 s2 s3) (.slice t1 t2 t3)) rfl #[.int .i64 k1.kind, .int .i64 k1.flag, .string (bs k1.text), .slice s1 s2 s3, .slice t1 t2 t3] (0, 0) (new_block2 _ _ _) rfl rfl (by simp [kcs, Value.oneCell']) (by unfold bigN; omega) (by omega) (by first | (simp; done) | (simp; omega)) ?_; intro g3 cap3 w3 hown3 hgrow3 hwh hgl3; have hb3 := (hgrow3.block (w.heap.size + 1) (by have := lt_of_block HB2.out; simp; omega) (fun e => by have e : some (w.heap.size + 1) = (none : Option Nat) := e; cases e)).trans (alloc_block (alloc_block HB2.out _) _); have b34 := cell_of_block hb3 4; have h34 := frozen_of_block hb3 4; simp at b34)
        have KF : Kept [w.heap.size + 1, w.heap.size + 1] w2 (w3.setCell ⟨w.heap.size + 1, 4, none⟩ (.slice (some ⟨g3, 0, none⟩) 1 cap3)) := ((((Kept.refl _ w2).alloc _).alloc _).grown hgrow3 (by intro k e _; have e : (none : Option Nat) = some k := e; cases e)).setCell _ _ (by simp)
        go_roundg 1
        case measure => omega
        case rel =>
          refine .inr ⟨rfl, by go_num, k1, q1, r1, g3, cap3, w.heap.size + 2, w2.heap.size, w2.heap.size + 2, .slice s1 s2 s3, .slice t1 t2 t3, HE.out, HR.out.kept KF (by simp; omega), KF.same HA2.out (by simp), ?_, ?_, ?_, Nat.le_refl _, ?_, by omega, ?_, ?_⟩
          · have := set_of_block (i := 4) hb3 (.slice (some ⟨g3, 0, none⟩) 1 cap3); simpa using this
          · have := own_kept hown3 ((Kept.refl [w.heap.size + 1] _).setCell ⟨w.heap.size + 1, 4, none⟩ (.slice (some ⟨g3, 0, none⟩) 1 cap3) (by simp)) (by simp; omega); simpa using this
          · have := KeyX.kept KF (by simp) k1 _ _ HX.out; simpa using this
          · have := HK2.out.size; simpa using this
          · simpa [World.setCell] using hgl3
          · exact HKW2.out.trans' KF (fun _ e _ => e) (fun x e hx => by simp at e; omega)
    · have a0 := cell_of_block hA1 0
      have a1 := cell_of_block hA1 1
      have a2 := cell_of_block hA1 2
      have a3 := cell_of_block hA1 3
      have a4 := cell_of_block hA1 4
      simp at a0 a1 a2 a3 a4
      have f0 := frozen_of_block hA1 0
      have f1 := frozen_of_block hA1 1
      have f2 := frozen_of_block hA1 2
      have f3 := frozen_of_block hA1 3
      have f4 := frozen_of_block hA1 4
      have b0 := cell_of_block hB1 0
      have b1 := cell_of_block hB1 1
      have b2 := cell_of_block hB1 2
      have b3 := cell_of_block hB1 3
      have b4 := cell_of_block hB1 4
      simp at b0 b1 b2 b3 b4
      have h0 := frozen_of_block hB1 0
      have h1 := frozen_of_block hB1 1
      have h2 := frozen_of_block hB1 2
      have h3 := frozen_of_block hB1 3
      have h4 := frozen_of_block hB1 4
      have hal := lt_of_block hA1
      have hbl := lt_of_block hB1
      have HE := hid e1
      have HR := hid hR1
      have HX := hid (fun W' (hK : Kept [w.heap.size] wr W') => keyX_mk1 (lo := w.heap.size) kind hO1 hX1 (by omega) hxy1 hyH hgl hK (by omega))
      have HKW := hid hKW
      clear e1 hR1 hO1 hX1 hKW hA1 hB1
      go_wp2
      refine bodyPost_ret (v := .tuple #[.agg #[.int .i64 kind, .int .i64 0, .string ⟨#[]⟩, .slice none 0 0, .slice (some ⟨g, 0, none⟩) 1 cap], .bool true]) (by simp [results, Tryz.results47, go_sem, a0, a1, a2, a3, a4]) rfl ?_
      have ho : o = some (Ky.mk kind 0 [] [] [k1], q1, r1) := by rw [← HO.out, oneO, HE.out]
      subst ho
      refine ⟨kind, 0, ⟨#[]⟩, none, 0, 0, some ⟨g, 0, none⟩, 1, cap, true, rfl, ?_, rfl, rfl, rfl, rfl, HX.out _ ?_, HR.out.kept (bs := [w.heap.size]) ?_ (by simp; omega)⟩
      · repeat' with_reducible first | exact HKW.out | refine Kept.setCell ?_ _ _ (by first | (simp; done) | (simp; omega))
      · repeat' with_reducible first | exact Kept.refl _ _ | refine Kept.setCell ?_ _ _ (by simp)
      · repeat' with_reducible first | exact Kept.refl _ _ | refine Kept.setCell ?_ _ _ (by simp)

set_option maxRecDepth 100000 in
set_option maxHeartbeats 4000000 in
theorem keys_two (w0 : World) (n : Nat) (hG : KeyGoes w0 n) (kind : Int) (rb r : Nat) (ws : List (List UInt8)) (w : World) (h : RdrAt w0 w rb ws r) (hK0 : Kept [] w0 w) (hp : w0.heap.size ≤ rb) (hr9 : r ≤ 9) (hrn : r < n) (hws : ∀ x ∈ ws, x.length + 1 ≤ bigN) :
    Calls Tryz.prog 47 #[.pointer (some ⟨rb, 0, none⟩), .int .i64 kind, .int .i64 2] w (KeyRes w0 rb (twoO n r ws kind) w) := by
  have hlt := h.lt
  have HR0 := hid h
  have HK0 := hid hK0
  have HG := hid (hG rb)
  have HWS := hid hws
  obtain ⟨o, ho⟩ : ∃ o, (twoO n r ws kind) = o := ⟨_, rfl⟩
  rw [ho]
  have HO := hid ho
  clear ho h hK0 hG hws
  have HA := hid (alloc_block (new_block w (Obj.cells #[.int .i64 0, .int .i64 0, .string ⟨#[]⟩, .slice none 0 0, .slice none 0 0] 26)) (Obj.cells #[.int .i64 kind, .int .i64 0, .string ⟨#[]⟩, .slice none 0 0, .slice none 0 0] 26))
  have HB := hid (new_block2 w (Obj.cells #[.int .i64 0, .int .i64 0, .string ⟨#[]⟩, .slice none 0 0, .slice none 0 0] 26) (Obj.cells #[.int .i64 kind, .int .i64 0, .string ⟨#[]⟩, .slice none 0 0, .slice none 0 0] 26))
  have HKA := hid (((Kept.refl [] w).alloc (Obj.cells #[.int .i64 0, .int .i64 0, .string ⟨#[]⟩, .slice none 0 0, .slice none 0 0] 26)).alloc (Obj.cells #[.int .i64 kind, .int .i64 0, .string ⟨#[]⟩, .slice none 0 0, .slice none 0 0] 26))
  go_enter Tryz.func47, Tryz.ntmps47
  go_wp2
  go_loopg [14] 3 (fun m i W => (m = 3 ∧ i = .int .i64 0 ∧ W = (w.alloc (Obj.cells #[.int .i64 0, .int .i64 0, .string ⟨#[]⟩, .slice none 0 0, .slice none 0 0] 26)).alloc (Obj.cells #[.int .i64 kind, .int .i64 0, .string ⟨#[]⟩, .slice none 0 0, .slice none 0 0] 26)) ∨
    (m = 2 ∧ i = .int .i64 1 ∧ ∃ (k1 : Ky) (q1 : Nat) (r1 : List (List UInt8)) (g cap x1 y1 H : Nat) (sv1 kv1 : Value), rdK n r ws = some (k1, q1, r1) ∧ RdrAt w0 W rb r1 q1 ∧ W.heap[w.heap.size]? = some (.cells #[.int .i64 0, .int .i64 0, .string ⟨#[]⟩, .slice none 0 0, .slice none 0 0] 26 (0, 0)) ∧ W.heap[w.heap.size + 1]? = some (.cells #[.int .i64 kind, .int .i64 0, .string ⟨#[]⟩, .slice none 0 0, .slice (some ⟨g, 0, none⟩) 1 cap] 26 (0, 0)) ∧
      W.ownsRow H 26 5 (.slice (some ⟨g, 0, none⟩) 1 cap) 1 (kcs k1 sv1 kv1) ∧ KeyX x1 y1 W k1 sv1 kv1 ∧ w.heap.size + 2 ≤ x1 ∧ x1 ≤ y1 ∧ y1 ≤ H ∧ g < W.heap.size ∧ Kept [rb] w W) ∨
    (m = 1 ∧ i = .int .i64 2 ∧ ∃ (k1 k2 : Ky) (q1 q2 : Nat) (r1 r2 : List (List UInt8)) (g cap x1 y1 x2 y2 H : Nat) (sv1 kv1 sv2 kv2 : Value), rdK n r ws = some (k1, q1, r1) ∧ rdK n q1 r1 = some (k2, q2, r2) ∧ RdrAt w0 W rb r2 q2 ∧ W.heap[w.heap.size]? = some (.cells #[.int .i64 0, .int .i64 0, .string ⟨#[]⟩, .slice none 0 0, .slice none 0 0] 26 (0, 0)) ∧ W.heap[w.heap.size + 1]? = some (.cells #[.int .i64 kind, .int .i64 0, .string ⟨#[]⟩, .slice none 0 0, .slice (some ⟨g, 0, none⟩) 2 cap] 26 (0, 0)) ∧
      W.ownsRow H 26 5 (.slice (some ⟨g, 0, none⟩) 2 cap) 2 (kcs k1 sv1 kv1 ++ kcs k2 sv2 kv2) ∧ KeyX x1 y1 W k1 sv1 kv1 ∧ KeyX x2 y2 W k2 sv2 kv2 ∧ w.heap.size + 2 ≤ x1 ∧ x1 ≤ y1 ∧ y1 ≤ H ∧ y1 ≤ x2 ∧ x2 ≤ y2 ∧ y2 ≤ W.heap.size ∧ (g < x2 ∨ y2 ≤ g) ∧ g < W.heap.size ∧ Kept [rb] w W))
  case atStart => exact .inl ⟨rfl, rfl, rfl⟩
  case round =>
    rcases hrel with ⟨rfl, rfl, rfl⟩ | ⟨rfl, rfl, k1, q1, r1, g, cap, x1, y1, H, sv1, kv1, e1, hR1, hA1, hB1, hO1, hX1, hx1, hxy1, hyH, hgl, hKW⟩ | ⟨rfl, rfl, k1, k2, q1, q2, r1, r2, g, cap, x1, y1, x2, y2, H, sv1, kv1, sv2, kv2, e1, e2, hR2, hA2, hB2, hO2, hX1, hX2, hx1, hxy1, hyH, hyx, hxy2, hy2, hg2, hgl, hKW⟩
    · have HC := hid (HG.out r ws _ (HR0.out.kept HKA.out (by simp)) (HK0.out.trans HKA.out) hp hr9 hrn HWS.out)
      have HAx := HA
      have HBx := HB
      have HKx : Hid (Kept [rb] w _) := HKA.out.nil
      go_wp2_with fail
      refine HC.out.mono ?_
      rintro e w2 ⟨x, y, tt, s1, s2, s3, t1, t2, t3, ok, rfl, hK2, hres⟩
      have hA2 := hK2.same HAx.out (by simp; omega)
      have hB2 := hK2.same HBx.out (by simp; omega)
      have a0 := cell_of_block hA2 0
      have a1 := cell_of_block hA2 1
      have a2 := cell_of_block hA2 2
      have a3 := cell_of_block hA2 3
      have a4 := cell_of_block hA2 4
      simp at a0 a1 a2 a3 a4
      have f0 := frozen_of_block hA2 0
      have f1 := frozen_of_block hA2 1
      have f2 := frozen_of_block hA2 2
      have f3 := frozen_of_block hA2 3
      have f4 := frozen_of_block hA2 4
      have b0 := cell_of_block hB2 0
      have b1 := cell_of_block hB2 1
      have b2 := cell_of_block hB2 2
      have b3 := cell_of_block hB2 3
      have b4 := cell_of_block hB2 4
      simp at b0 b1 b2 b3 b4
      have h0 := frozen_of_block hB2 0
      have h1 := frozen_of_block hB2 1
      have h2 := frozen_of_block hB2 2
      have h3 := frozen_of_block hB2 3
      have h4 := frozen_of_block hB2 4
      have hal := lt_of_block hA2
      have hbl := lt_of_block hB2
      have HA2 := hid hA2
      have HB2 := hid hB2
      have HK2 := hid hK2
      have HKW2 := hid (HKx.out.trans hK2)
      clear hA2 hB2 hK2
      cases hrd : rdK n r ws with
      | none =>
        rw [hrd] at hres
        dsimp only at hres
        subst hres
        have HN : Hid (o = none) := by show _ = _; rw [← HO.out, twoO, hrd]
        clear hrd
        go_wp2
        refine bodyPost_ret (v := .tuple #[.agg #[.int .i64 0, .int .i64 0, .string ⟨#[]⟩, .slice none 0 0, .slice none 0 0], .bool false]) (by simp [results, Tryz.results47, go_sem, a0, a1, a2, a3, a4, hal]) rfl ?_
        refine ⟨_, _, _, _, _, _, _, _, _, _, rfl, ?_, by rw [HN.out]⟩
        repeat' with_reducible first | exact HKW2.out | refine Kept.alloc ?_ _ | refine Kept.setCell ?_ _ _ (by first | (simp; done) | (simp; omega))
      | some kq =>
        obtain ⟨k1, q1, r1⟩ := kq
        rw [hrd] at hres
        obtain ⟨rfl, rfl, rfl, rfl, hX, hR⟩ := hres
        have HE := hid hrd
        have HX := hid hX
        have HR := hid hR
        have hrl := hR.lt
        clear hrd hX hR
        go_wp2_with (at_builtin; refine append_where 24 26 _ 5 80 Tryz.underlying24 inf_key rfl (by decide) (by decide) rfl (.tmp 25) (.tmp 27) rfl (w2.heap.size + 2) (.slice none 0 0) 0 [] rfl (own_empty _ _ _ _) (w2.heap.size + 1) 1 1 (kcs k1 (.slice s1 s2 s3) (.slice t1 t2 t3)) rfl #[.int .i64 k1.kind, .int .i64 k1.flag, .string (bs k1.text), .slice s1 s2 s3, .slice t1 t2 t3] (0, 0) (new_block2 _ _ _) rfl rfl (by simp [kcs, Value.oneCell']) (by unfold bigN; omega) (by omega) (by first | (simp; done) | (simp; omega)) ?_; intro g3 cap3 w3 hown3 hgrow3 hwh hgl3; have hb3 := (hgrow3.block (w.heap.size + 1) (by have := lt_of_block HB2.out; simp; omega) (fun e => by have e : some (w.heap.size + 1) = (none : Option Nat) := e; cases e)).trans (alloc_block (alloc_block HB2.out _) _); have b34 := cell_of_block hb3 4; have h34 := frozen_of_block hb3 4; simp at b34)
        have KF : Kept [w.heap.size + 1, w.heap.size + 1] w2 (w3.setCell ⟨w.heap.size + 1, 4, none⟩ (.slice (some ⟨g3, 0, none⟩) 1 cap3)) := ((((Kept.refl _ w2).alloc _).alloc _).grown hgrow3 (by intro k e _; have e : (none : Option Nat) = some k := e; cases e)).setCell _ _ (by simp)
        go_roundg 2
        case measure => omega
        case rel =>
          refine .inr (.inl ⟨rfl, by go_num, k1, q1, r1, g3, cap3, w.heap.size + 2, w2.heap.size, w2.heap.size + 2, .slice s1 s2 s3, .slice t1 t2 t3, HE.out, HR.out.kept KF (by simp; omega), KF.same HA2.out (by simp), ?_, ?_, ?_, Nat.le_refl _, ?_, by omega, ?_, ?_⟩)
          · have := set_of_block (i := 4) hb3 (.slice (some ⟨g3, 0, none⟩) 1 cap3); simpa using this
          · have := own_kept hown3 ((Kept.refl [w.heap.size + 1] _).setCell ⟨w.heap.size + 1, 4, none⟩ (.slice (some ⟨g3, 0, none⟩) 1 cap3) (by simp)) (by simp; omega); simpa using this
          · have := KeyX.kept KF (by simp) k1 _ _ HX.out; simpa using this
          · have := HK2.out.size; simpa using this
          · simpa [World.setCell] using hgl3
          · exact HKW2.out.trans' KF (fun _ e _ => e) (fun x e hx => by simp at e; omega)
    · obtain ⟨hw1, hq1⟩ := rdK_words_left _ _ _ _ _ _ e1
      have HC := hid (HG.out q1 r1 _ hR1 (HK0.out.newB hKW hp) hp (by omega) (by omega) (fun x hx => HWS.out x (hw1 x hx)))
      have HAx := hid hA1
      have HBx := hid hB1
      have HKx := hid hKW
      have HOx := hid hO1
      have HX1 := hid hX1
      have HE1 := hid e1
      have hgl0 := hgl
      clear hR1 hA1 hB1 hO1 hX1 e1 hKW hw1 hq1
      go_wp2_with fail
      refine HC.out.mono ?_
      rintro e w2 ⟨x, y, tt, s1, s2, s3, t1, t2, t3, ok, rfl, hK2, hres⟩
      have hA2 := hK2.same HAx.out (by simp; omega)
      have hB2 := hK2.same HBx.out (by simp; omega)
      have a0 := cell_of_block hA2 0
      have a1 := cell_of_block hA2 1
      have a2 := cell_of_block hA2 2
      have a3 := cell_of_block hA2 3
      have a4 := cell_of_block hA2 4
      simp at a0 a1 a2 a3 a4
      have f0 := frozen_of_block hA2 0
      have f1 := frozen_of_block hA2 1
      have f2 := frozen_of_block hA2 2
      have f3 := frozen_of_block hA2 3
      have f4 := frozen_of_block hA2 4
      have b0 := cell_of_block hB2 0
      have b1 := cell_of_block hB2 1
      have b2 := cell_of_block hB2 2
      have b3 := cell_of_block hB2 3
      have b4 := cell_of_block hB2 4
      simp at b0 b1 b2 b3 b4
      have h0 := frozen_of_block hB2 0
      have h1 := frozen_of_block hB2 1
      have h2 := frozen_of_block hB2 2
      have h3 := frozen_of_block hB2 3
      have h4 := frozen_of_block hB2 4
      have hal := lt_of_block hA2
      have hbl := lt_of_block hB2
      have HA2 := hid hA2
      have HB2 := hid hB2
      have HK2 := hid hK2
      have HKW2 := hid (HKx.out.trans hK2)
      have hHg := (HOx.out.lt g rfl).1
      have hsz2 := HK2.out.size
      have HO2 := hid (own_kept HOx.out hK2 (by simp; omega))
      have HX12 := hid (KeyX.kept hK2 (by simp; omega) k1 sv1 kv1 HX1.out)
      clear hA2 hB2 hK2
      cases hrd : rdK n q1 r1 with
      | none =>
        rw [hrd] at hres
        dsimp only at hres
        subst hres
        have HN : Hid (o = none) := by show _ = _; rw [← HO.out, twoO, HE1.out]; dsimp only; rw [hrd]
        clear hrd
        go_wp2
        refine bodyPost_ret (v := .tuple #[.agg #[.int .i64 0, .int .i64 0, .string ⟨#[]⟩, .slice none 0 0, .slice none 0 0], .bool false]) (by simp [results, Tryz.results47, go_sem, a0, a1, a2, a3, a4, hal]) rfl ?_
        refine ⟨_, _, _, _, _, _, _, _, _, _, rfl, ?_, by rw [HN.out]⟩
        repeat' with_reducible first | exact HKW2.out | refine Kept.alloc ?_ _ | refine Kept.setCell ?_ _ _ (by first | (simp; done) | (simp; omega))
      | some kq =>
        obtain ⟨k2, q2, r2⟩ := kq
        rw [hrd] at hres
        obtain ⟨rfl, rfl, rfl, rfl, hX, hR⟩ := hres
        have HE := hid hrd
        have HX := hid hX
        have HR := hid hR
        have hrl := hR.lt
        clear hrd hX hR
        go_wp2_with (at_builtin; refine append_where 24 26 _ 5 80 Tryz.underlying24 inf_key rfl (by decide) (by decide) rfl (.tmp 25) (.tmp 27) rfl H (.slice (some ⟨g, 0, none⟩) 1 cap) 1 (kcs k1 sv1 kv1) rfl ((HO2.out.alloc _).alloc _) (w2.heap.size + 1) 1 1 (kcs k2 (.slice s1 s2 s3) (.slice t1 t2 t3)) rfl #[.int .i64 k2.kind, .int .i64 k2.flag, .string (bs k2.text), .slice s1 s2 s3, .slice t1 t2 t3] (0, 0) (new_block2 _ _ _) rfl rfl (by simp [kcs, Value.oneCell']) (by unfold bigN; omega) (by omega) (by first | (simp; done) | (simp; omega)) ?_; intro g3 cap3 w3 hown3 hgrow3 hwh hgl3; have hb3 := (hgrow3.block (w.heap.size + 1) (by have := lt_of_block HB2.out; simp; omega) (fun e => by have e : some (w.heap.size + 1) = some g := e; injection e with e; omega)).trans (alloc_block (alloc_block HB2.out _) _); have b34 := cell_of_block hb3 4; have h34 := frozen_of_block hb3 4; simp at b34)
        have KF : Kept [w.heap.size + 1, g] w2 (w3.setCell ⟨w.heap.size + 1, 4, none⟩ (.slice (some ⟨g3, 0, none⟩) 2 cap3)) := ((((Kept.refl _ w2).alloc _).alloc _).grown hgrow3 (by intro k e _; have e : some g = some k := e; injection e with e; simp [← e])).setCell _ _ (by simp)
        go_roundg 1
        case measure => omega
        case rel =>
          refine .inr (.inr ⟨rfl, by go_num, k1, k2, q1, q2, r1, r2, g3, cap3, x1, y1, wr.heap.size, w2.heap.size, H, sv1, kv1, .slice s1 s2 s3, .slice t1 t2 t3, HE1.out, HE.out, HR.out.kept KF (by simp; omega), KF.same HA2.out (by simp; omega), ?_, ?_, ?_, ?_, hx1, hxy1, hyH, by omega, hsz2, ?_, ?_, ?_, ?_⟩)
          · have := set_of_block (i := 4) hb3 (.slice (some ⟨g3, 0, none⟩) 2 cap3); simpa using this
          · have := own_kept hown3 ((Kept.refl [w.heap.size + 1] _).setCell ⟨w.heap.size + 1, 4, none⟩ (.slice (some ⟨g3, 0, none⟩) 2 cap3) (by simp)) (by simp; omega); simpa using this
          · exact KeyX.kept KF (by simp; omega) k1 _ _ HX12.out
          · exact KeyX.kept KF (by simp; omega) k2 _ _ HX.out
          · exact KF.size
          · rcases hwh with e | e
            · have e : some g = some g3 := e
              injection e with e; omega
            · right; rw [e]; simp; omega
          · simpa [World.setCell] using hgl3
          · exact HKW2.out.trans' KF (fun _ e _ => e) (fun x e hx => by simp at e; omega)
    · have a0 := cell_of_block hA2 0
      have a1 := cell_of_block hA2 1
      have a2 := cell_of_block hA2 2
      have a3 := cell_of_block hA2 3
      have a4 := cell_of_block hA2 4
      simp at a0 a1 a2 a3 a4
      have f0 := frozen_of_block hA2 0
      have f1 := frozen_of_block hA2 1
      have f2 := frozen_of_block hA2 2
      have f3 := frozen_of_block hA2 3
      have f4 := frozen_of_block hA2 4
      have b0 := cell_of_block hB2 0
      have b1 := cell_of_block hB2 1
      have b2 := cell_of_block hB2 2
      have b3 := cell_of_block hB2 3
      have b4 := cell_of_block hB2 4
      simp at b0 b1 b2 b3 b4
      have h0 := frozen_of_block hB2 0
      have h1 := frozen_of_block hB2 1
      have h2 := frozen_of_block hB2 2
      have h3 := frozen_of_block hB2 3
      have h4 := frozen_of_block hB2 4
      have hal := lt_of_block hA2
      have hbl := lt_of_block hB2
      have HE := hid (And.intro e1 e2)
      have HR := hid hR2
      have HX := hid (fun W' (hK : Kept [w.heap.size] wr W') => keyX_mk2 (lo := w.heap.size) kind hO2 hX1 hX2 (by omega) hxy1 hyH hyx hxy2 hy2 hg2 hgl hK (by omega))
      have HKW := hid hKW
      clear e1 e2 hR2 hO2 hX1 hX2 hKW hA2 hB2 hg2
      go_wp2
      refine bodyPost_ret (v := .tuple #[.agg #[.int .i64 kind, .int .i64 0, .string ⟨#[]⟩, .slice none 0 0, .slice (some ⟨g, 0, none⟩) 2 cap], .bool true]) (by simp [results, Tryz.results47, go_sem, a0, a1, a2, a3, a4]) rfl ?_
      have ho : o = some (Ky.mk kind 0 [] [] [k1, k2], q2, r2) := by rw [← HO.out, twoO, HE.out.1]; dsimp only; rw [HE.out.2]
      subst ho
      refine ⟨kind, 0, ⟨#[]⟩, none, 0, 0, some ⟨g, 0, none⟩, 2, cap, true, rfl, ?_, rfl, rfl, rfl, rfl, HX.out _ ?_, HR.out.kept (bs := [w.heap.size]) ?_ (by simp; omega)⟩
      · repeat' with_reducible first | exact HKW.out | refine Kept.setCell ?_ _ _ (by first | (simp; done) | (simp; omega))
      · repeat' with_reducible first | exact Kept.refl _ _ | refine Kept.setCell ?_ _ _ (by simp)
      · repeat' with_reducible first | exact Kept.refl _ _ | refine Kept.setCell ?_ _ _ (by simp)
end Go.Proofs.YtoleonldkifcbaaGreatDoor
namespace Go.Proofs.YtoleonldkifcbaaGreatDoor
open Go.RowKit

theorem own_sl {W : World} {H n : Nat} {E : TypeId} {size : Nat} {v : Value} {xs : List Value} (h : W.ownsRow H E size v n xs) : ∃ a cap, v = .slice a n cap := by
  rcases h.2 with ⟨hv, h0⟩ | ⟨g', cap', cur, hv, -⟩
  · exact ⟨none, 0, by rw [hv, h0]⟩
  · exact ⟨_, _, hv⟩
theorem spansX_own {W : World} {H : Nat} {v : Value} {d : List (Int × Int)} (h : W.ownsRow H 85 2 v d.length (d.flatMap scs)) (hd : d.length ≤ 6) : SpansX H W.heap.size W v d := by
  rcases Nat.eq_zero_or_pos d.length with h0 | h0
  · obtain ⟨a, cap, rfl⟩ := own_sl h
    have : d.length ≤ cap := by omega
    exact ⟨a, cap, 0, rfl, this, by omega, fun h1 => by omega⟩
  · obtain ⟨g, cap, rfl, hg, hh, hcp, -, hc⟩ := own_open h h0
    obtain ⟨C, hC⟩ := own_block h
    refine ⟨_, cap, g, rfl, hcp, by omega, fun _ => ⟨rfl, hg, hh, hh, C, hC, fun j hj => ?_⟩⟩
    have cell : ∀ i, i < 2 → C[j * 2 + i]? = (scs d[j])[i]? := fun i hi => by
      rw [← cell_of_block hC]
      rcases hc (j * 2 + i) with h1 | h1
      · rw [h1, flat_get scs 2 (fun _ => rfl) d j i hj hi]
      · omega
    exact ⟨cell 0 (by omega), cell 1 (by omega)⟩
theorem keyX_leaf {lo hi : Nat} {W : World} (a b : Int) (c : List UInt8) (d : List (Int × Int)) (sv : Value) (hc : c.length ≤ bigN) (hs : SpansX lo hi W sv d) : KeyX lo hi W (.mk a b c d []) sv (.slice none 0 0) := by
  unfold KeyX KeysX
  exact ⟨hc, hs, fun h => absurd h (by simp), none, 0, 0, rfl, Nat.zero_le _, by simp, fun h => absurd h (by simp), trivial⟩
theorem str_ne {x t : List UInt8} (h : x ≠ t) : ((bs x).toList == t) = false := by rw [str_eq, bs_toList, decide_eq_false_iff_not]; exact h
theorem str_yes {x t : List UInt8} (h : x = t) : ((bs x).toList == t) = true := by rw [str_eq, bs_toList, decide_eq_true_eq]; exact h
theorem head_mem {ws : List (List UInt8)} (hws : ∀ x ∈ ws, x.length + 1 ≤ bigN) : (ws.headD []).length + 1 ≤ bigN := by
  cases ws with
  | nil => unfold bigN; decide
  | cons x l => exact hws x (by simp)
theorem tail_mem {ws : List (List UInt8)} (hws : ∀ x ∈ ws, x.length + 1 ≤ bigN) : ∀ x ∈ ws.tail, x.length + 1 ≤ bigN := fun x hx => hws x (List.mem_of_mem_tail hx)

/-- What the keys' call tells, behind the stores of it into the result. -/
theorem keyRes_back {w0 w w1 w2 w3 : World} {rb A : Nat} {o : Option (Ky × Nat × List (List UInt8))} {x y : Int} {t : ByteArray} {s1 : Option Addr} {s2 s3 : Nat} {t1 : Option Addr} {t2 t3 : Nat} {ok : Bool}
    (h : match o with | some (k, q, ws) => ok = true ∧ x = k.kind ∧ y = k.flag ∧ t = bs k.text ∧ KeyX w1.heap.size w2.heap.size w2 k (.slice s1 s2 s3) (.slice t1 t2 t3) ∧ RdrAt w0 w2 rb ws q | none => ok = false)
    (hK : Kept [rb] w w2) (hs : w.heap.size ≤ w1.heap.size) (hA : A < w1.heap.size) (hrb : rb ≠ A ∧ w.heap.size ≤ A) (hK3 : Kept [A] w2 w3) (hs3 : w3.heap.size = w2.heap.size) :
    KeyRes w0 rb o w (.returned (.tuple #[.agg #[.int .i64 x, .int .i64 y, .string t, .slice s1 s2 s3, .slice t1 t2 t3], .bool ok])) w3 := by
  refine ⟨x, y, t, s1, s2, s3, t1, t2, t3, ok, rfl, hK.trans' hK3 (fun _ e _ => e) (fun z e hz => by simp at e; omega), ?_⟩
  match o with
  | none => exact h
  | some (k, q, ws) =>
    obtain ⟨h1, h2, h3, h4, h5, h6⟩ := h
    refine ⟨h1, h2, h3, h4, ?_, h6.kept hK3 (by simp; omega)⟩
    rw [hs3]
    exact (KeyX.kept hK3 (by simp; omega) k _ _ h5).wide hs (Nat.le_refl _)

set_option maxRecDepth 100000 in
set_option maxHeartbeats 8000000 in
theorem key_step (w0 : World) (hF : FlagsAt w0) (n : Nat) (hG : KeyGoes w0 n) : KeyGoes w0 (n + 1) := by
  intro rb r ws w h hK0 hp hr9 hrn hws
  have hlt := h.lt
  obtain ⟨a0, cap0, hb, hs⟩ := h
  have c1 := cell_of_block hb 1
  have f1 := frozen_of_block hb 1
  simp at c1
  have HB := hid hb
  have HS := hid hs
  have HK0 := hid hK0
  have HWS := hid hws
  have hrn' : ¬ rb = w.heap.size := by omega
  clear hb hs hK0 hws
  cases r with
  | zero =>
    have c1 : w.cell? ⟨rb, 1, none⟩ = some (.int .i64 0) := c1
    have hb := new_block (w.setCell ⟨rb, 1, none⟩ (.int .i64 (-1))) (Obj.cells #[.int .i64 0, .int .i64 0, .string ⟨#[]⟩, .slice none 0 0, .slice none 0 0] 26)
    go_enter Tryz.func24, Tryz.ntmps24
    go_wp2
    refine bodyPost_ret (v := .tuple #[.agg #[.int .i64 0, .int .i64 0, .string ⟨#[]⟩, .slice none 0 0, .slice none 0 0], .bool false]) (by simp [results, Tryz.results24, go_sem]) rfl ?_
    refine ⟨_, _, _, _, _, _, _, _, _, _, rfl, ?_, by simp [rdK]⟩
    repeat' with_reducible first | exact Kept.refl _ _ | refine Kept.alloc ?_ _ | refine Kept.setCell ?_ _ _ (by first | (simp; done) | (simp; omega))
  | succ q =>
    have hq1 : ((q + 1 : Nat) : Int) - 1 = q := by omega
    have hq0 : ¬ (q : Int) < 0 := by omega
    have hqw : wrap64 (q : Int) = q := by unfold wrap64; omega
    have HRD : Hid (rdK (n + 1) (q + 1) ws = match wordJ (ws.headD []) with
      | some (kind, two) => (match rdK n q ws.tail with
        | none => none
        | some (k1, q1, r1) => if two = true then (match rdK n q1 r1 with | none => none | some (k2, q2, r2) => some (.mk kind 0 [] [] [k1, k2], q2, r2)) else some (.mk kind 0 [] [] [k1], q1, r1))
      | none => (leafI (ws.headD []) ws.tail).map (fun x => (x.1, q, x.2))) := rfl
    have HW1 := hid (fun W (hR : RdrAt w0 W rb ws q) (hW : Kept [] w0 W) => word_any w0 W rb q ws hR hW hp)
    have HW2 := hid (fun W (hR : RdrAt w0 W rb ws.tail q) (hW : Kept [] w0 W) => word_any w0 W rb q ws.tail hR hW hp)
    have HFL := hid (fun x W (hW : Kept [] w0 W) => flag_any (.pointer (some ⟨rb, 0, none⟩)) x W (hF.kept0 hW))
    have HK1 := hid (fun kind W (hR : RdrAt w0 W rb ws.tail q) (hW : Kept [] w0 W) => keys_one w0 n hG kind rb q ws.tail W hR hW hp (by omega) (by omega) (tail_mem HWS.out))
    have HK2 := hid (fun kind W (hR : RdrAt w0 W rb ws.tail q) (hW : Kept [] w0 W) => keys_two w0 n hG kind rb q ws.tail W hR hW hp (by omega) (by omega) (tail_mem HWS.out))
    have hx := head_mem HWS.out
    have hx2 := head_mem (tail_mem HWS.out)
    have HXL := hid hx
    generalize hgx : ws.headD [] = x at HRD HW1 HXL
    have HSP := hid (fun W => iSetParse_any (bs (ws.tail.headD [])) W (by rw [bs_size]; omega))
    rw [bs_toList] at HSP
    have HX2 := hid hx2
    generalize hgy : ws.tail.headD [] = y at HSP HW2 HX2
    have HGY := hid hgy
    obtain ⟨o, ho⟩ : ∃ o, rdK (n + 1) (q + 1) ws = o := ⟨_, rfl⟩
    rw [ho] at HRD ⊢
    clear ho hx hx2 hgx hgy hG
    go_enter Tryz.func24, Tryz.ntmps24
    go_upto_region 4 with fail
    refine gen_world (fun W => W.heap[rb]? = some (.cells #[.slice a0 ws.length cap0, .int .i64 (q : Nat)] 48 (0, 0)) ∧ W.heap[w.heap.size]? = some (.cells #[.int .i64 0, .int .i64 0, .string ⟨#[]⟩, .slice none 0 0, .slice none 0 0] 26 (0, 0)) ∧ Kept [rb] w W) ⟨?_, ?_, ?_⟩ ?_
    · have := alloc_block (set_of_block (i := 1) HB.out (.int .i64 (q : Int))) (Obj.cells #[.int .i64 0, .int .i64 0, .string ⟨#[]⟩, .slice none 0 0, .slice none 0 0] 26)
      simpa using this
    · have := new_block (w.setCell ⟨rb, 1, none⟩ (.int .i64 (q : Int))) (Obj.cells #[.int .i64 0, .int .i64 0, .string ⟨#[]⟩, .slice none 0 0, .slice none 0 0] 26)
      simpa using this
    · exact ((Kept.refl _ _).setCell _ _ (by simp)).alloc _
    clear c1 f1
    rintro W ⟨hRB, hA, hKP⟩
    have HC := hid (HW1.out W ⟨_, _, hRB, HS.out⟩ (HK0.out.newB hKP hp))
    have HA := hid hA
    have HKP := hid hKP
    clear hRB hA hKP HB HS HW1
    go_wp2_with fail
    refine HC.out.mono ?_
    rintro e w1 ⟨rfl, hK1, hR1⟩
    have hA1 := hK1.same HA.out (by simp; omega)
    have HA1 := hid hA1
    have HR1 := hid hR1
    have HKW := hid (HKP.out.trans hK1)
    have HK01 := hid (HK0.out.newB HKW.out hp)
    have hrl := hR1.lt
    have hal := lt_of_block hA1
    clear hA1 hR1 hK1 HC HA HKP
    by_cases hx0 : x = tAll
    · have HW : Hid (x = tAll) := hid hx0
      have e0 := str_yes (show x = [97, 108, 108] from hx0)
      clear hx0
      have a0 := cell_of_block HA1.out 0
      have a1 := cell_of_block HA1.out 1
      have a2 := cell_of_block HA1.out 2
      have a3 := cell_of_block HA1.out 3
      have a4 := cell_of_block HA1.out 4
      simp at a0 a1 a2 a3 a4
      have f0 := frozen_of_block HA1.out 0
      have f1 := frozen_of_block HA1.out 1
      have f2 := frozen_of_block HA1.out 2
      have f3 := frozen_of_block HA1.out 3
      have f4 := frozen_of_block HA1.out 4
      have hzl := hal
      go_wp2
      refine bodyPost_ret (v := .tuple #[.agg #[.int .i64 0, .int .i64 0, .string ⟨#[]⟩, .slice none 0 0, .slice none 0 0], .bool true]) (by simp [results, Tryz.results24, go_sem, a0, a1, a2, a3, a4]) rfl ?_
      have ho : o = some (.mk 0 0 [] [] [], q, ws.tail) := by rw [HRD.out, HW.out]; rfl
      subst ho
      refine ⟨_, _, _, _, _, _, _, _, _, _, rfl, ?_, rfl, rfl, rfl, rfl, keyX_leaf _ _ _ _ _ (Nat.zero_le _) (spansX_none _ _ _), HR1.out.kept (bs := [w.heap.size]) ?_ (by simp; omega)⟩
      · repeat' with_reducible first | exact HKW.out | refine Kept.setCell ?_ _ _ (by first | (simp; done) | (simp; omega))
      · repeat' with_reducible first | exact Kept.refl _ _ | refine Kept.setCell ?_ _ _ (by simp)
    · have e0 := str_ne (show x ≠ [97, 108, 108] from hx0)
      by_cases hx1 : x = tText
      · have HW : Hid (x = tText) := hid hx1
        have e1 := str_yes (show x = [116, 101, 120, 116] from hx1)
        clear hx1
        go_wp2_with fail
        refine (HW2.out _ HR1.out HK01.out).mono ?_
        rintro e w2 ⟨rfl, hK2, hR2⟩
        have hA2 := hK2.same HA1.out (by simp; omega)
        have HR2 := hid hR2
        have HKW2 := hid (HKW.out.trans hK2)
        have a0 := cell_of_block hA2 0
        have a1 := cell_of_block hA2 1
        have a2 := cell_of_block hA2 2
        have a3 := cell_of_block hA2 3
        have a4 := cell_of_block hA2 4
        simp at a0 a1 a2 a3 a4
        have f0 := frozen_of_block hA2 0
        have f1 := frozen_of_block hA2 1
        have f2 := frozen_of_block hA2 2
        have f3 := frozen_of_block hA2 3
        have f4 := frozen_of_block hA2 4
        have hzl := lt_of_block hA2
        clear hA2 hR2 hK2
        go_wp2
        refine bodyPost_ret (v := .tuple #[.agg #[.int .i64 2, .int .i64 0, .string (bs y), .slice none 0 0, .slice none 0 0], .bool true]) (by simp [results, Tryz.results24, go_sem, a0, a1, a2, a3, a4]) rfl ?_
        have ho : o = some (.mk 2 0 y [] [], q, ws.tail.tail) := by rw [HRD.out, HW.out, ← HGY.out]; rfl
        subst ho
        refine ⟨_, _, _, _, _, _, _, _, _, _, rfl, ?_, rfl, rfl, rfl, rfl, keyX_leaf _ _ _ _ _ (by have := HX2.out; omega) (spansX_none _ _ _), HR2.out.kept (bs := [w.heap.size]) ?_ (by simp; omega)⟩
        · repeat' with_reducible first | exact HKW2.out | refine Kept.setCell ?_ _ _ (by first | (simp; done) | (simp; omega))
        · repeat' with_reducible first | exact Kept.refl _ _ | refine Kept.setCell ?_ _ _ (by simp)
      · have e1 := str_ne (show x ≠ [116, 101, 120, 116] from hx1)
        by_cases hx2 : x = tAt
        · have HW : Hid (x = tAt) := hid hx2
          have e2 := str_yes (show x = [97, 116] from hx2)
          clear hx2
          go_wp2_with fail
          refine (HW2.out _ HR1.out HK01.out).mono ?_
          rintro e w2 ⟨rfl, hK2, hR2⟩
          have hA2 := hK2.same HA1.out (by simp; omega)
          have HR2 := hid hR2
          have HKW2 := hid (HKW.out.trans hK2)
          have HA2 := hid hA2
          clear hA2 hR2 hK2
          go_wp2_with fail
          refine (HSP.out _).mono ?_
          rintro e w3 ⟨v, rfl, hK3, hown⟩
          obtain ⟨va, vcap, rfl⟩ := own_sl hown
          have hA3 := hK3.same HA2.out (by simp)
          have HR3 := hid (HR2.out.kept hK3 (by simp))
          have HKW3 := hid (HKW2.out.trans hK3.nil)
          have HOW := hid hown
          have hal2 := lt_of_block HA2.out
          have a0 := cell_of_block hA3 0
          have a1 := cell_of_block hA3 1
          have a2 := cell_of_block hA3 2
          have a3 := cell_of_block hA3 3
          have a4 := cell_of_block hA3 4
          simp at a0 a1 a2 a3 a4
          have f0 := frozen_of_block hA3 0
          have f1 := frozen_of_block hA3 1
          have f2 := frozen_of_block hA3 2
          have f3 := frozen_of_block hA3 3
          have f4 := frozen_of_block hA3 4
          have hzl := lt_of_block hA3
          have hsz := HKW2.out.size
          clear hA3 hK3 hown HA2
          obtain ⟨so, hso⟩ : ∃ so, setP y = so := ⟨_, rfl⟩
          rw [hso] at HOW ⊢
          have HSO := hid hso
          clear hso
          go_wp2
          refine bodyPost_ret (v := .tuple #[.agg #[.int .i64 3, .int .i64 0, .string ⟨#[]⟩, .slice va (so.getD []).length vcap, .slice none 0 0], .bool so.isSome]) (by simp [results, Tryz.results24, go_sem, a0, a1, a2, a3, a4]) rfl ?_
          have ho : o = so.map (fun s => (.mk 3 0 [] s [], q, ws.tail.tail)) := by
            rw [HRD.out, HW.out, ← HSO.out, ← HGY.out]
            show Option.map _ (Option.map _ _) = _
            rw [Option.map_map]; rfl
          subst ho
          have hKF : Kept [rb] w _ := HKW3.out
          cases so with
          | none =>
            refine ⟨_, _, _, _, _, _, _, _, _, _, rfl, ?_, rfl⟩
            repeat' with_reducible first | exact HKW3.out | refine Kept.setCell ?_ _ _ (by first | (simp; done) | (simp; omega))
          | some d =>
            have hd6 := (setOk_mem (setS_ok (by rw [← setP_same]; exact HSO.out))).2.2
            have hspx := spansX_own HOW.out hd6
            refine ⟨_, _, _, _, _, _, _, _, _, _, rfl, ?_, rfl, rfl, rfl, rfl, keyX_leaf _ _ _ _ _ (Nat.zero_le _) ((hspx.kept (bs := [w.heap.size]) ?_ (by simp; omega)).wide hsz ?_), HR3.out.kept (bs := [w.heap.size]) ?_ (by simp; omega)⟩
            · repeat' with_reducible first | exact HKW3.out | refine Kept.setCell ?_ _ _ (by first | (simp; done) | (simp; omega))
            · repeat' with_reducible first | exact Kept.refl _ _ | refine Kept.setCell ?_ _ _ (by simp)
            · simp [World.setCell]
            · repeat' with_reducible first | exact Kept.refl _ _ | refine Kept.setCell ?_ _ _ (by simp)
        · have e2 := str_ne (show x ≠ [97, 116] from hx2)
          by_cases hx3 : x = tUid
          · have HW : Hid (x = tUid) := hid hx3
            have e3 := str_yes (show x = [117, 105, 100] from hx3)
            clear hx3
            go_wp2_with fail
            refine (HW2.out _ HR1.out HK01.out).mono ?_
            rintro e w2 ⟨rfl, hK2, hR2⟩
            have hA2 := hK2.same HA1.out (by simp; omega)
            have HR2 := hid hR2
            have HKW2 := hid (HKW.out.trans hK2)
            have HA2 := hid hA2
            clear hA2 hR2 hK2
            go_wp2_with fail
            refine (HSP.out _).mono ?_
            rintro e w3 ⟨v, rfl, hK3, hown⟩
            obtain ⟨va, vcap, rfl⟩ := own_sl hown
            have hA3 := hK3.same HA2.out (by simp)
            have HR3 := hid (HR2.out.kept hK3 (by simp))
            have HKW3 := hid (HKW2.out.trans hK3.nil)
            have HOW := hid hown
            have hal2 := lt_of_block HA2.out
            have a0 := cell_of_block hA3 0
            have a1 := cell_of_block hA3 1
            have a2 := cell_of_block hA3 2
            have a3 := cell_of_block hA3 3
            have a4 := cell_of_block hA3 4
            simp at a0 a1 a2 a3 a4
            have f0 := frozen_of_block hA3 0
            have f1 := frozen_of_block hA3 1
            have f2 := frozen_of_block hA3 2
            have f3 := frozen_of_block hA3 3
            have f4 := frozen_of_block hA3 4
            have hzl := lt_of_block hA3
            have hsz := HKW2.out.size
            clear hA3 hK3 hown HA2
            obtain ⟨so, hso⟩ : ∃ so, setP y = so := ⟨_, rfl⟩
            rw [hso] at HOW ⊢
            have HSO := hid hso
            clear hso
            go_wp2
            refine bodyPost_ret (v := .tuple #[.agg #[.int .i64 4, .int .i64 0, .string ⟨#[]⟩, .slice va (so.getD []).length vcap, .slice none 0 0], .bool so.isSome]) (by simp [results, Tryz.results24, go_sem, a0, a1, a2, a3, a4]) rfl ?_
            have ho : o = so.map (fun s => (.mk 4 0 [] s [], q, ws.tail.tail)) := by
              rw [HRD.out, HW.out, ← HSO.out, ← HGY.out]
              show Option.map _ (Option.map _ _) = _
              rw [Option.map_map]; rfl
            subst ho
            have hKF : Kept [rb] w _ := HKW3.out
            cases so with
            | none =>
              refine ⟨_, _, _, _, _, _, _, _, _, _, rfl, ?_, rfl⟩
              repeat' with_reducible first | exact HKW3.out | refine Kept.setCell ?_ _ _ (by first | (simp; done) | (simp; omega))
            | some d =>
              have hd6 := (setOk_mem (setS_ok (by rw [← setP_same]; exact HSO.out))).2.2
              have hspx := spansX_own HOW.out hd6
              refine ⟨_, _, _, _, _, _, _, _, _, _, rfl, ?_, rfl, rfl, rfl, rfl, keyX_leaf _ _ _ _ _ (Nat.zero_le _) ((hspx.kept (bs := [w.heap.size]) ?_ (by simp; omega)).wide hsz ?_), HR3.out.kept (bs := [w.heap.size]) ?_ (by simp; omega)⟩
              · repeat' with_reducible first | exact HKW3.out | refine Kept.setCell ?_ _ _ (by first | (simp; done) | (simp; omega))
              · repeat' with_reducible first | exact Kept.refl _ _ | refine Kept.setCell ?_ _ _ (by simp)
              · simp [World.setCell]
              · repeat' with_reducible first | exact Kept.refl _ _ | refine Kept.setCell ?_ _ _ (by simp)
          · have e3 := str_ne (show x ≠ [117, 105, 100] from hx3)
            by_cases hx4 : x = tNot
            · have HW : Hid (x = tNot) := hid hx4
              have e4 := str_yes (show x = [110, 111, 116] from hx4)
              clear hx4
              have ho : o = _ := HRD.out
              rw [HW.out] at ho
              have HCK := hid (HK1.out 5 _ HR1.out HK01.out)
              have ho2 : oneO n q ws.tail 5 = o := by rw [ho]; rfl
              rw [ho2] at HCK
              clear ho ho2
              go_wp2_with fail
              refine HCK.out.mono ?_
              rintro e w2 ⟨xx, yy, tt, s1, s2, s3, t1, t2, t3, ok, rfl, hK2, hres⟩
              have hA2 := hK2.same HA1.out (by simp; omega)
              have a0 := cell_of_block hA2 0
              have a1 := cell_of_block hA2 1
              have a2 := cell_of_block hA2 2
              have a3 := cell_of_block hA2 3
              have a4 := cell_of_block hA2 4
              simp at a0 a1 a2 a3 a4
              have f0 := frozen_of_block hA2 0
              have f1 := frozen_of_block hA2 1
              have f2 := frozen_of_block hA2 2
              have f3 := frozen_of_block hA2 3
              have f4 := frozen_of_block hA2 4
              have hzl := lt_of_block hA2
              have HKW2 := hid (HKW.out.trans hK2)
              have HRS := hid hres
              have hsz := HKW.out.size
              clear hA2 hK2 hres
              go_wp2
              refine bodyPost_ret (v := .tuple #[.agg #[.int .i64 xx, .int .i64 yy, .string tt, .slice s1 s2 s3, .slice t1 t2 t3], .bool ok]) (by simp [results, Tryz.results24, go_sem, a0, a1, a2, a3, a4]) rfl ?_
              refine keyRes_back HRS.out HKW2.out hsz hal (by omega) ?_ ?_
              · repeat' with_reducible first | exact Kept.refl _ _ | refine Kept.setCell ?_ _ _ (by simp)
              · simp [World.setCell]
            · have e4 := str_ne (show x ≠ [110, 111, 116] from hx4)
              by_cases hx5 : x = tAnd
              · have HW : Hid (x = tAnd) := hid hx5
                have e5 := str_yes (show x = [97, 110, 100] from hx5)
                clear hx5
                have ho : o = _ := HRD.out
                rw [HW.out] at ho
                have HCK := hid (HK2.out 6 _ HR1.out HK01.out)
                have ho2 : twoO n q ws.tail 6 = o := by rw [ho]; rfl
                rw [ho2] at HCK
                clear ho ho2
                go_wp2_with fail
                refine HCK.out.mono ?_
                rintro e w2 ⟨xx, yy, tt, s1, s2, s3, t1, t2, t3, ok, rfl, hK2, hres⟩
                have hA2 := hK2.same HA1.out (by simp; omega)
                have a0 := cell_of_block hA2 0
                have a1 := cell_of_block hA2 1
                have a2 := cell_of_block hA2 2
                have a3 := cell_of_block hA2 3
                have a4 := cell_of_block hA2 4
                simp at a0 a1 a2 a3 a4
                have f0 := frozen_of_block hA2 0
                have f1 := frozen_of_block hA2 1
                have f2 := frozen_of_block hA2 2
                have f3 := frozen_of_block hA2 3
                have f4 := frozen_of_block hA2 4
                have hzl := lt_of_block hA2
                have HKW2 := hid (HKW.out.trans hK2)
                have HRS := hid hres
                have hsz := HKW.out.size
                clear hA2 hK2 hres
                go_wp2
                refine bodyPost_ret (v := .tuple #[.agg #[.int .i64 xx, .int .i64 yy, .string tt, .slice s1 s2 s3, .slice t1 t2 t3], .bool ok]) (by simp [results, Tryz.results24, go_sem, a0, a1, a2, a3, a4]) rfl ?_
                refine keyRes_back HRS.out HKW2.out hsz hal (by omega) ?_ ?_
                · repeat' with_reducible first | exact Kept.refl _ _ | refine Kept.setCell ?_ _ _ (by simp)
                · simp [World.setCell]
              · have e5 := str_ne (show x ≠ [97, 110, 100] from hx5)
                by_cases hx6 : x = tOr
                · have HW : Hid (x = tOr) := hid hx6
                  have e6 := str_yes (show x = [111, 114] from hx6)
                  clear hx6
                  have ho : o = _ := HRD.out
                  rw [HW.out] at ho
                  have HCK := hid (HK2.out 7 _ HR1.out HK01.out)
                  have ho2 : twoO n q ws.tail 7 = o := by rw [ho]; rfl
                  rw [ho2] at HCK
                  clear ho ho2
                  go_wp2_with fail
                  refine HCK.out.mono ?_
                  rintro e w2 ⟨xx, yy, tt, s1, s2, s3, t1, t2, t3, ok, rfl, hK2, hres⟩
                  have hA2 := hK2.same HA1.out (by simp; omega)
                  have a0 := cell_of_block hA2 0
                  have a1 := cell_of_block hA2 1
                  have a2 := cell_of_block hA2 2
                  have a3 := cell_of_block hA2 3
                  have a4 := cell_of_block hA2 4
                  simp at a0 a1 a2 a3 a4
                  have f0 := frozen_of_block hA2 0
                  have f1 := frozen_of_block hA2 1
                  have f2 := frozen_of_block hA2 2
                  have f3 := frozen_of_block hA2 3
                  have f4 := frozen_of_block hA2 4
                  have hzl := lt_of_block hA2
                  have HKW2 := hid (HKW.out.trans hK2)
                  have HRS := hid hres
                  have hsz := HKW.out.size
                  clear hA2 hK2 hres
                  go_wp2
                  refine bodyPost_ret (v := .tuple #[.agg #[.int .i64 xx, .int .i64 yy, .string tt, .slice s1 s2 s3, .slice t1 t2 t3], .bool ok]) (by simp [results, Tryz.results24, go_sem, a0, a1, a2, a3, a4]) rfl ?_
                  refine keyRes_back HRS.out HKW2.out hsz hal (by omega) ?_ ?_
                  · repeat' with_reducible first | exact Kept.refl _ _ | refine Kept.setCell ?_ _ _ (by simp)
                  · simp [World.setCell]
                · have e6 := str_ne (show x ≠ [111, 114] from hx6)
                  have HN := hid (And.intro hx0 (And.intro hx1 (And.intro hx2 (And.intro hx3 (And.intro hx4 (And.intro hx5 hx6))))))
                  clear hx0 hx1 hx2 hx3 hx4 hx5 hx6
                  have HWJ : Hid (wordJ x = none) := by show _ = _; unfold wordJ; rw [if_neg HN.out.2.2.2.2.1, if_neg HN.out.2.2.2.2.2.1, if_neg HN.out.2.2.2.2.2.2]
                  have HLF : Hid (leafI x ws.tail = (wordFl x).map (fun n => (.mk 1 n [] [] [], ws.tail))) := by show _ = _; unfold leafI; rw [if_neg HN.out.1, if_neg HN.out.2.1, if_neg HN.out.2.2.1, if_neg HN.out.2.2.2.1]
                  have HCF := hid (HFL.out x _ HK01.out)
                  obtain ⟨fo, hfo⟩ : ∃ fo, wordFl x = fo := ⟨_, rfl⟩
                  rw [hfo] at HCF HLF
                  clear hfo
                  cases fo with
                  | none =>
                    go_wp2_with fail
                    refine HCF.out.mono ?_
                    rintro e w2 ⟨rfl, hK2⟩
                    have hA2 := hK2.same HA1.out (by simp)
                    have a0 := cell_of_block hA2 0
                    have a1 := cell_of_block hA2 1
                    have a2 := cell_of_block hA2 2
                    have a3 := cell_of_block hA2 3
                    have a4 := cell_of_block hA2 4
                    simp at a0 a1 a2 a3 a4
                    have f0 := frozen_of_block hA2 0
                    have f1 := frozen_of_block hA2 1
                    have f2 := frozen_of_block hA2 2
                    have f3 := frozen_of_block hA2 3
                    have f4 := frozen_of_block hA2 4
                    have hzl := lt_of_block hA2
                    have HKW2 := hid (HKW.out.trans hK2.nil)
                    clear hA2 hK2
                    rw [show flagV none = .tuple #[.agg #[.int .i64 0, .int .i64 0, .string ⟨#[]⟩, .slice none 0 0, .slice none 0 0], .bool false] from rfl]
                    go_wp2
                    refine bodyPost_ret (v := .tuple #[.agg #[.int .i64 0, .int .i64 0, .string ⟨#[]⟩, .slice none 0 0, .slice none 0 0], .bool false]) (by simp [results, Tryz.results24, go_sem, a0, a1, a2, a3, a4]) rfl ?_
                    have ho : o = none := by rw [HRD.out, HWJ.out]; dsimp only; rw [HLF.out]; rfl
                    subst ho
                    refine ⟨_, _, _, _, _, _, _, _, _, _, rfl, ?_, rfl⟩
                    repeat' with_reducible first | exact HKW2.out | refine Kept.setCell ?_ _ _ (by first | (simp; done) | (simp; omega))
                  | some nn =>
                    go_wp2_with fail
                    refine HCF.out.mono ?_
                    rintro e w2 ⟨rfl, hK2⟩
                    have hA2 := hK2.same HA1.out (by simp)
                    have a0 := cell_of_block hA2 0
                    have a1 := cell_of_block hA2 1
                    have a2 := cell_of_block hA2 2
                    have a3 := cell_of_block hA2 3
                    have a4 := cell_of_block hA2 4
                    simp at a0 a1 a2 a3 a4
                    have f0 := frozen_of_block hA2 0
                    have f1 := frozen_of_block hA2 1
                    have f2 := frozen_of_block hA2 2
                    have f3 := frozen_of_block hA2 3
                    have f4 := frozen_of_block hA2 4
                    have hzl := lt_of_block hA2
                    have HKW2 := hid (HKW.out.trans hK2.nil)
                    have HR2 := hid (HR1.out.kept hK2 (by simp))
                    clear hA2 hK2
                    rw [show flagV (some nn) = .tuple #[.agg #[.int .i64 1, .int .i64 nn, .string ⟨#[]⟩, .slice none 0 0, .slice none 0 0], .bool true] from rfl]
                    go_wp2
                    refine bodyPost_ret (v := .tuple #[.agg #[.int .i64 1, .int .i64 nn, .string ⟨#[]⟩, .slice none 0 0, .slice none 0 0], .bool true]) (by simp [results, Tryz.results24, go_sem, a0, a1, a2, a3, a4]) rfl ?_
                    have ho : o = some (.mk 1 nn [] [] [], q, ws.tail) := by rw [HRD.out, HWJ.out]; dsimp only; rw [HLF.out]; rfl
                    subst ho
                    refine ⟨_, _, _, _, _, _, _, _, _, _, rfl, ?_, rfl, rfl, rfl, rfl, keyX_leaf _ _ _ _ _ (Nat.zero_le _) (spansX_none _ _ _), HR2.out.kept (bs := [w.heap.size]) ?_ (by simp; omega)⟩
                    · repeat' with_reducible first | exact HKW2.out | refine Kept.setCell ?_ _ _ (by first | (simp; done) | (simp; omega))
                    · repeat' with_reducible first | exact Kept.refl _ _ | refine Kept.setCell ?_ _ _ (by simp)
end Go.Proofs.YtoleonldkifcbaaGreatDoor
