/- The laws' comparisons of sets and keys. -/
import Derived.Test.YtoleonldkifcbaaGreatDoorKSa
import Derived.StillTailTactics
import Derived.Test.YtoleonldkifcbaaGreatDoorKKa
namespace Go.Proofs.YtoleonldkifcbaaGreatDoor
open Go.RowKit

theorem sameSpans_self (lo1 lo2 : Nat) (v1 v2 : Value) (l : List (Int × Int)) (w : World) (h1 : SpansAt lo1 w v1 l) (h2 : SpansAt lo2 w v2 l) :
    Calls Tryz.prog 25 #[v1, v2] w fun e w' => e = .returned (.bool true) ∧ Kept [] w w' := by
  obtain ⟨a1, cap1, b1, off1, rfl, hl1, hcp1, ha1, hc1⟩ := h1
  obtain ⟨a2, cap2, b2, off2, rfl, hl2, hcp2, ha2, hc2⟩ := h2
  have HC1 := hid hc1
  have HC2 := hid hc2
  have HA1 := hid ha1
  have HA2 := hid ha2
  have hl63 : l.length ≤ 2 ^ 63 - 1 := by have := Nat.le_trans hl1 bigN_le; unfold maxLen at this; exact this
  clear hc1 hc2 ha1 ha2 hl1 hl2
  go_enter Tryz.func25, Tryz.ntmps25
  go_wp2
  go_loopg [5] l.length (fun m i wr => ∃ k : Nat, m = l.length - k ∧ k ≤ l.length ∧ i = .int .i64 k ∧ Drew w wr)
  case atStart => exact ⟨0, rfl, Nat.zero_le _, rfl, Drew.refl _⟩
  case round =>
    obtain ⟨k, hm, hk, rfl, hD⟩ := hrel
    have HM := hid hm
    have HD := hid hD
    clear hm hD
    by_cases hlt : k < l.length
    · obtain ⟨rfl, -, -⟩ := HA1.out (by omega)
      obtain ⟨rfl, -, -⟩ := HA2.out (by omega)
      have c1 := HD.out.cell (HC1.out k hlt).1
      have c2 := HD.out.cell (HC1.out k hlt).2
      have d1 := HD.out.cell (HC2.out k hlt).1
      have d2 := HD.out.cell (HC2.out k hlt).2
      have i1 : (k : Int) < l.length := by omega
      have i4 : k < cap1 := by omega
      have i5 : k < cap2 := by omega
      generalize l[k].1 = x at c1 d1
      generalize l[k].2 = y at c2 d2
      go_wp2
      go_quiet (fail)
      go_wp2
      go_roundg (l.length - (k + 1))
      case measure => have := HM.out; omega
      case rel => exact ⟨k + 1, rfl, by omega, by go_num, HD.out.more _⟩
    · obtain rfl : k = l.length := by omega
      go_wp2
      go_ret
      exact ⟨rfl, HD.out.kept⟩

theorem eqSpan_self (x y : Int) (w : World) : Calls Tryz.prog 52 #[.agg #[.int .i64 x, .int .i64 y], .agg #[.int .i64 x, .int .i64 y]] w fun e w' => e = .returned (.bool true) ∧ Kept [] w w' := by
  have HK := hid (((Kept.refl [] w).alloc (Obj.cells #[.int .i64 x, .int .i64 y] 85)).alloc (Obj.cells #[.int .i64 x, .int .i64 y] 85))
  go_enter Tryz.func52, Tryz.ntmps52
  go_wp2
  go_ret
  exact ⟨rfl, HK.out⟩

set_option maxRecDepth 100000 in
theorem eqSpanS_self (lo1 lo2 : Nat) (v1 v2 : Value) (l : List (Int × Int)) (w : World) (h1 : SpansAt lo1 w v1 l) (h2 : SpansAt lo2 w v2 l) :
    Calls Tryz.prog 31 #[v1, v2] w fun e w' => e = .returned (.bool true) ∧ Kept [] w w' := by
  have HS1 := hid (fun W (hW : Kept [] w W) => h1.kept0 hW)
  have HS2 := hid (fun W (hW : Kept [] w W) => h2.kept0 hW)
  obtain ⟨a1, cap1, b1, off1, rfl, hl1, hcp1, ha1, hc1⟩ := h1
  obtain ⟨a2, cap2, b2, off2, rfl, hl2, hcp2, ha2, hc2⟩ := h2
  have HC1 := hid hc1
  have HC2 := hid hc2
  have HA1 := hid ha1
  have HA2 := hid ha2
  have hl63 : l.length ≤ 2 ^ 63 - 1 := by have := Nat.le_trans hl1 bigN_le; unfold maxLen at this; exact this
  clear hc1 hc2 ha1 ha2 hl1 hl2
  go_enter Tryz.func31, Tryz.ntmps31
  go_wp2
  go_loopg [5] l.length (fun m i wr => ∃ k : Nat, m = l.length - k ∧ k ≤ l.length ∧ i = .int .i64 k ∧ Kept [] w wr)
  case atStart => exact ⟨0, rfl, Nat.zero_le _, rfl, Kept.refl _ _⟩
  case round =>
    obtain ⟨k, hm, hk, rfl, hD⟩ := hrel
    have HM := hid hm
    have HD := hid hD
    clear hm hD
    by_cases hlt : k < l.length
    · obtain ⟨rfl, -, -⟩ := HA1.out (by omega)
      obtain ⟨rfl, -, -⟩ := HA2.out (by omega)
      have c1 := HD.out.cell_some (HC1.out k hlt).1 (by simp)
      have c2 := HD.out.cell_some (HC1.out k hlt).2 (by simp)
      have d1 := HD.out.cell_some (HC2.out k hlt).1 (by simp)
      have d2 := HD.out.cell_some (HC2.out k hlt).2 (by simp)
      have i1 : (k : Int) < l.length := by omega
      have i4 : k < cap1 := by omega
      have i5 : k < cap2 := by omega
      generalize l[k].1 = x at c1 d1
      generalize l[k].2 = y at c2 d2
      go_wp2
      go_still_tail 8, (by kernel_rfl)
      change wpList _ _ _ _ _ wr.drew
      have hKd := HD.out.drew
      generalize wr.drew = w2 at hKd ⊢
      have HK2 := hid hKd
      clear hKd
      go_wp2_with fail
      refine (eqSpan_self x y w2).mono ?_
      rintro e w3 ⟨rfl, hK⟩
      have HK3 := hid (HK2.out.trans hK)
      clear hK
      go_wp2
      go_roundg (l.length - (k + 1))
      case measure => have := HM.out; omega
      case rel => exact ⟨k + 1, rfl, by omega, by go_num, HK3.out⟩
    · obtain rfl : k = l.length := by omega
      go_wp2
      go_ret
      exact ⟨rfl, HD.out⟩
end Go.Proofs.YtoleonldkifcbaaGreatDoor
namespace Go.Proofs.YtoleonldkifcbaaGreatDoor
open Go.RowKit

/-- Keys with so few nodes are compared. -/
def SameGo (n : Nat) : Prop := ∀ (k : Ky) (sv1 kv1 sv2 kv2 : Value) (w : World), nodesK k < n → KeyIn 0 w k sv1 kv1 → KeyIn 0 w k sv2 kv2 →
  Calls Tryz.prog 11 #[.agg #[.int .i64 k.kind, .int .i64 k.flag, .string (bs k.text), sv1, kv1], .agg #[.int .i64 k.kind, .int .i64 k.flag, .string (bs k.text), sv2, kv2]] w fun e w' => e = .returned (.bool true) ∧ Kept [] w w'
theorem nodesK_mem {k : Ky} {ks : List Ky} (h : k ∈ ks) : nodesK k ≤ nodesL ks := by
  induction ks with
  | nil => cases h
  | cons x ks ih =>
    unfold nodesL
    rcases List.mem_cons.1 h with rfl | h
    · omega
    · have := ih h; omega

set_option maxRecDepth 100000 in
set_option maxHeartbeats 4000000 in
theorem same_step (n : Nat) (ih : SameGo n) : SameGo (n + 1) := by
  intro k sv1 kv1 sv2 kv2 w hnk h1 h2
  obtain ⟨a, b, c, d, ks⟩ := k
  obtain ⟨hcl, hsp1, a1, cap1, b1, off1, hkv1, hl1, hcp1, hba1, hks1⟩ := h1.parts
  obtain ⟨-, hsp2, a2, cap2, b2, off2, hkv2, hl2, hcp2, hba2, hks2⟩ := h2.parts
  have hkv1 : kv1 = .slice a1 ks.length cap1 := hkv1
  have hkv2 : kv2 = .slice a2 ks.length cap2 := hkv2
  subst hkv1 hkv2
  have HSP := hid (fun W (hW : Kept [] w W) => sameSpans_self 0 0 sv1 sv2 d W (hsp1.kept0 hW) (hsp2.kept0 hW))
  obtain ⟨sa1, scap1, rfl⟩ := hsp1.form
  obtain ⟨sa2, scap2, rfl⟩ := hsp2.form
  simp only [Ky.keys, Ky.text, Ky.set, Ky.kind, Ky.flag] at hcl hl1 hcp1 hba1 hks1 hl2 hcp2 hba2 hks2 HSP ⊢
  have HKS1 := hid hks1
  have HKS2 := hid hks2
  have HBA1 := hid hba1
  have HBA2 := hid hba2
  have hn63 : ks.length ≤ 2 ^ 63 - 1 := by have := Nat.le_trans hl1 bigN_le; unfold maxLen at this; exact this
  have HNK : Hid (∀ x ∈ ks, nodesK x < n) := fun x hx => by have := nodesK_mem hx; unfold nodesK at hnk; omega
  have HA := hid (alloc_block (new_block w (Obj.cells #[.int .i64 a, .int .i64 b, .string (bs c), .slice sa1 d.length scap1, .slice a1 ks.length cap1] 26)) (Obj.cells #[.int .i64 a, .int .i64 b, .string (bs c), .slice sa2 d.length scap2, .slice a2 ks.length cap2] 26))
  have HB := hid (new_block2 w (Obj.cells #[.int .i64 a, .int .i64 b, .string (bs c), .slice sa1 d.length scap1, .slice a1 ks.length cap1] 26) (Obj.cells #[.int .i64 a, .int .i64 b, .string (bs c), .slice sa2 d.length scap2, .slice a2 ks.length cap2] 26))
  have KA := hid (((Kept.refl [] w).alloc (Obj.cells #[.int .i64 a, .int .i64 b, .string (bs c), .slice sa1 d.length scap1, .slice a1 ks.length cap1] 26)).alloc (Obj.cells #[.int .i64 a, .int .i64 b, .string (bs c), .slice sa2 d.length scap2, .slice a2 ks.length cap2] 26))
  have HIH := hid ih
  clear h1 h2 hsp1 hsp2 hks1 hks2 hba1 hba2 hcl hnk ih hl1 hl2
  go_enter Tryz.func11, Tryz.ntmps11
  go_wp2_with fail
  refine (HSP.out _ KA.out).mono ?_
  rintro e w1 ⟨rfl, hK1⟩
  have HK1 := hid (KA.out.trans hK1)
  have hA1 := hK1.same HA.out (by simp)
  have hB1 := hK1.same HB.out (by simp)
  have HA1 := hid hA1
  have HB1 := hid hB1
  have a4 := cell_of_block hA1 4
  have b4 := cell_of_block hB1 4
  have hal := lt_of_block hA1
  have hbl := lt_of_block hB1
  simp at a4 b4
  clear hK1 hA1 hB1 HSP
  go_wp2
  go_loopg [5] ks.length (fun m i W => ∃ j : Nat, m = ks.length - j ∧ j ≤ ks.length ∧ i = .int .i64 j ∧ Kept [] w W ∧ W.heap[w.heap.size]? = some (.cells #[.int .i64 a, .int .i64 b, .string (bs c), .slice sa1 d.length scap1, .slice a1 ks.length cap1] 26 (0, 0)) ∧ W.heap[w.heap.size + 1]? = some (.cells #[.int .i64 a, .int .i64 b, .string (bs c), .slice sa2 d.length scap2, .slice a2 ks.length cap2] 26 (0, 0)))
  case atStart => exact ⟨0, rfl, Nat.zero_le _, rfl, HK1.out, HA1.out, HB1.out⟩
  case round =>
    clear a4 b4 hal hbl
    obtain ⟨j, hm, hj, rfl, hK, hA, hB⟩ := hrel
    have HM := hid hm
    have HK := hid hK
    have a4 := cell_of_block hA 4
    have b4 := cell_of_block hB 4
    have hal := lt_of_block hA
    have hbl := lt_of_block hB
    simp at a4 b4
    have HAW := hid hA
    have HBW := hid hB
    clear hm hK hA hB
    by_cases hlt : j < ks.length
    · obtain ⟨rfl, -, -⟩ := HBA1.out (by omega)
      obtain ⟨rfl, -, -⟩ := HBA2.out (by omega)
      obtain ⟨sv1, kv1, c0, c1, c2, c3, c4, hk1⟩ := KeysIn.get b1 off1 ks HKS1.out j hlt
      obtain ⟨sv2, kv2, d0, d1, d2, d3, d4, hk2⟩ := KeysIn.get b2 off2 ks HKS2.out j hlt
      have c0 := HK.out.cell_some c0 (by simp)
      have c1 := HK.out.cell_some c1 (by simp)
      have c2 := HK.out.cell_some c2 (by simp)
      have c3 := HK.out.cell_some c3 (by simp)
      have c4 := HK.out.cell_some c4 (by simp)
      have d0 := HK.out.cell_some d0 (by simp)
      have d1 := HK.out.cell_some d1 (by simp)
      have d2 := HK.out.cell_some d2 (by simp)
      have d3 := HK.out.cell_some d3 (by simp)
      have d4 := HK.out.cell_some d4 (by simp)
      have HC := hid (fun W (hW : Kept [] w W) => HIH.out ks[j] sv1 kv1 sv2 kv2 W (HNK.out _ (List.getElem_mem _)) (KeyIn.kept hW (by simp) _ _ _ hk1) (KeyIn.kept hW (by simp) _ _ _ hk2))
      have i1 : (j : Int) < ks.length := by omega
      have i4 : j < cap1 := by omega
      have i5 : j < cap2 := by omega
      clear hk1 hk2
      generalize ks[j].kind = kk at *
      generalize ks[j].flag = kf at *
      generalize ks[j].text = kt at *
      go_wp2
      go_still_tail 10, (by kernel_rfl)
      change wpList _ _ _ _ _ wr.drew
      have hKd := HK.out.drew
      have HKd := hid ((Kept.refl [] wr).drew)
      generalize wr.drew = w2 at hKd HKd ⊢
      have HK2 := hid hKd
      clear hKd
      go_wp2_with fail
      refine (HC.out _ HK2.out).mono ?_
      rintro e w3 ⟨rfl, hK3⟩
      have HK3 := hid (HK2.out.trans hK3)
      have HW3 := hid (HKd.out.trans hK3)
      clear hK3
      go_wp2
      go_roundg (ks.length - (j + 1))
      case measure => rw [HM.out]; omega
      case rel => exact ⟨j + 1, rfl, by omega, by go_num, HK3.out, HW3.out.same HAW.out (by simp), HW3.out.same HBW.out (by simp)⟩
    · obtain rfl : j = ks.length := by omega
      go_wp2
      go_ret
      exact ⟨rfl, HK.out⟩
theorem same_go : ∀ n, SameGo n
  | 0 => fun _ _ _ _ _ _ h => absurd h (Nat.not_lt_zero _)
  | n + 1 => same_step n (same_go n)
theorem sameKey_self (k : Ky) (sv1 kv1 sv2 kv2 : Value) (w : World) (h1 : KeyIn 0 w k sv1 kv1) (h2 : KeyIn 0 w k sv2 kv2) :
    Calls Tryz.prog 11 #[.agg #[.int .i64 k.kind, .int .i64 k.flag, .string (bs k.text), sv1, kv1], .agg #[.int .i64 k.kind, .int .i64 k.flag, .string (bs k.text), sv2, kv2]] w fun e w' => e = .returned (.bool true) ∧ Kept [] w w' :=
  same_go (nodesK k + 1) k sv1 kv1 sv2 kv2 w (Nat.lt_succ_self _) h1 h2
end Go.Proofs.YtoleonldkifcbaaGreatDoor
namespace Go.Proofs.YtoleonldkifcbaaGreatDoor
open Go.RowKit

/-- A row of keys in memory. -/
def RowIn (w : World) (ks : List Ky) (kv : Value) : Prop := ∃ a cap b off, kv = .slice a ks.length cap ∧ ks.length ≤ bigN ∧ ks.length ≤ cap ∧ (0 < ks.length → a = some ⟨b, off, none⟩ ∧ 0 ≤ b ∧ b < w.heap.size) ∧ KeysIn 0 w b off ks
theorem RowIn.kept0 {w w' : World} {ks : List Ky} {kv : Value} (h : RowIn w ks kv) (K : Kept [] w w') : RowIn w' ks kv := by
  obtain ⟨a, cap, b, off, h1, h2, h3, h4, h5⟩ := h
  exact ⟨a, cap, b, off, h1, h2, h3, fun h0 => ⟨(h4 h0).1, (h4 h0).2.1, Nat.lt_of_lt_of_le (h4 h0).2.2 K.size⟩, KeysIn.kept K (by simp) b off ks h5 (by simp)⟩
theorem KeyIn.row {w : World} {k : Ky} {sv kv : Value} (h : KeyIn 0 w k sv kv) : RowIn w k.keys kv := by
  obtain ⟨-, -, a, cap, b, off, h1, h2, h3, h4, h5⟩ := h.parts
  exact ⟨a, cap, b, off, h1, h2, h3, h4, h5⟩

/-- Keys with so few nodes are compared. -/
def EqGo (n : Nat) : Prop := ∀ (k : Ky) (sv1 kv1 sv2 kv2 : Value) (w : World), nodesK k < n → KeyIn 0 w k sv1 kv1 → KeyIn 0 w k sv2 kv2 →
  Calls Tryz.prog 14 #[.agg #[.int .i64 k.kind, .int .i64 k.flag, .string (bs k.text), sv1, kv1], .agg #[.int .i64 k.kind, .int .i64 k.flag, .string (bs k.text), sv2, kv2]] w fun e w' => e = .returned (.bool true) ∧ Kept [] w w'

set_option maxRecDepth 100000 in
set_option maxHeartbeats 4000000 in
theorem eqKeyS_of (n : Nat) (ih : EqGo n) (ks : List Ky) (kv1 kv2 : Value) (w : World) (hn : ∀ x ∈ ks, nodesK x < n) (h1 : RowIn w ks kv1) (h2 : RowIn w ks kv2) :
    Calls Tryz.prog 32 #[kv1, kv2] w fun e w' => e = .returned (.bool true) ∧ Kept [] w w' := by
  obtain ⟨a1, cap1, b1, off1, rfl, hl1, hcp1, hba1, hks1⟩ := h1
  obtain ⟨a2, cap2, b2, off2, rfl, hl2, hcp2, hba2, hks2⟩ := h2
  have HKS1 := hid hks1
  have HKS2 := hid hks2
  have HBA1 := hid hba1
  have HBA2 := hid hba2
  have hn63 : ks.length ≤ 2 ^ 63 - 1 := by have := Nat.le_trans hl1 bigN_le; unfold maxLen at this; exact this
  have HNK := hid hn
  have HIH := hid ih
  clear hks1 hks2 hba1 hba2 ih hl1 hl2 hn
  go_enter Tryz.func32, Tryz.ntmps32
  go_wp2
  go_loopg [5] ks.length (fun m i W => ∃ j : Nat, m = ks.length - j ∧ j ≤ ks.length ∧ i = .int .i64 j ∧ Kept [] w W)
  case atStart => exact ⟨0, rfl, Nat.zero_le _, rfl, Kept.refl _ _⟩
  case round =>
    obtain ⟨j, hm, hj, rfl, hK⟩ := hrel
    have HM := hid hm
    have HK := hid hK
    clear hm hK
    by_cases hlt : j < ks.length
    · obtain ⟨rfl, -, -⟩ := HBA1.out (by omega)
      obtain ⟨rfl, -, -⟩ := HBA2.out (by omega)
      obtain ⟨sv1, kv1, c0, c1, c2, c3, c4, hk1⟩ := KeysIn.get b1 off1 ks HKS1.out j hlt
      obtain ⟨sv2, kv2, d0, d1, d2, d3, d4, hk2⟩ := KeysIn.get b2 off2 ks HKS2.out j hlt
      have c0 := HK.out.cell_some c0 (by simp)
      have c1 := HK.out.cell_some c1 (by simp)
      have c2 := HK.out.cell_some c2 (by simp)
      have c3 := HK.out.cell_some c3 (by simp)
      have c4 := HK.out.cell_some c4 (by simp)
      have d0 := HK.out.cell_some d0 (by simp)
      have d1 := HK.out.cell_some d1 (by simp)
      have d2 := HK.out.cell_some d2 (by simp)
      have d3 := HK.out.cell_some d3 (by simp)
      have d4 := HK.out.cell_some d4 (by simp)
      have HC := hid (fun W (hW : Kept [] w W) => HIH.out ks[j] sv1 kv1 sv2 kv2 W (HNK.out _ (List.getElem_mem _)) (KeyIn.kept hW (by simp) _ _ _ hk1) (KeyIn.kept hW (by simp) _ _ _ hk2))
      have i1 : (j : Int) < ks.length := by omega
      have i4 : j < cap1 := by omega
      have i5 : j < cap2 := by omega
      clear hk1 hk2
      generalize ks[j].kind = kk at *
      generalize ks[j].flag = kf at *
      generalize ks[j].text = kt at *
      go_wp2
      go_still_tail 8, (by kernel_rfl)
      change wpList _ _ _ _ _ wr.drew
      have hKd := HK.out.drew
      generalize wr.drew = w2 at hKd ⊢
      have HK2 := hid hKd
      clear hKd
      go_wp2_with fail
      refine (HC.out _ HK2.out).mono ?_
      rintro e w3 ⟨rfl, hK3⟩
      have HK3 := hid (HK2.out.trans hK3)
      clear hK3
      go_wp2
      go_roundg (ks.length - (j + 1))
      case measure => rw [HM.out]; omega
      case rel => exact ⟨j + 1, rfl, by omega, by go_num, HK3.out⟩
    · obtain rfl : j = ks.length := by omega
      go_wp2
      go_ret
      exact ⟨rfl, HK.out⟩

set_option maxRecDepth 100000 in
set_option maxHeartbeats 4000000 in
theorem eq_step (n : Nat) (ih : EqGo n) : EqGo (n + 1) := by
  intro k sv1 kv1 sv2 kv2 w hnk h1 h2
  have hr1 := h1.row
  have hr2 := h2.row
  obtain ⟨a, b, c, d, ks⟩ := k
  obtain ⟨-, hsp1, a1, cap1, b1, off1, hkv1, -⟩ := h1.parts
  obtain ⟨-, hsp2, a2, cap2, b2, off2, hkv2, -⟩ := h2.parts
  have hkv1 : kv1 = .slice a1 ks.length cap1 := hkv1
  have hkv2 : kv2 = .slice a2 ks.length cap2 := hkv2
  subst hkv1 hkv2
  have HSP := hid (fun W (hW : Kept [] w W) => eqSpanS_self 0 0 sv1 sv2 d W (hsp1.kept0 hW) (hsp2.kept0 hW))
  obtain ⟨sa1, scap1, rfl⟩ := hsp1.form
  obtain ⟨sa2, scap2, rfl⟩ := hsp2.form
  simp only [Ky.keys, Ky.text, Ky.set, Ky.kind, Ky.flag] at hr1 hr2 HSP ⊢
  have HEQ := hid (fun W (hW : Kept [] w W) => eqKeyS_of n ih ks _ _ W (fun x hx => by have := nodesK_mem hx; unfold nodesK at hnk; omega) (hr1.kept0 hW) (hr2.kept0 hW))
  have HA := hid (alloc_block (new_block w (Obj.cells #[.int .i64 a, .int .i64 b, .string (bs c), .slice sa1 d.length scap1, .slice a1 ks.length cap1] 26)) (Obj.cells #[.int .i64 a, .int .i64 b, .string (bs c), .slice sa2 d.length scap2, .slice a2 ks.length cap2] 26))
  have HB := hid (new_block2 w (Obj.cells #[.int .i64 a, .int .i64 b, .string (bs c), .slice sa1 d.length scap1, .slice a1 ks.length cap1] 26) (Obj.cells #[.int .i64 a, .int .i64 b, .string (bs c), .slice sa2 d.length scap2, .slice a2 ks.length cap2] 26))
  have KA := hid (((Kept.refl [] w).alloc (Obj.cells #[.int .i64 a, .int .i64 b, .string (bs c), .slice sa1 d.length scap1, .slice a1 ks.length cap1] 26)).alloc (Obj.cells #[.int .i64 a, .int .i64 b, .string (bs c), .slice sa2 d.length scap2, .slice a2 ks.length cap2] 26))
  clear h1 h2 hsp1 hsp2 hnk ih hr1 hr2
  go_enter Tryz.func14, Tryz.ntmps14
  go_wp2_with fail
  refine (HSP.out _ KA.out).mono ?_
  rintro e w1 ⟨rfl, hK1⟩
  have HK1 := hid (KA.out.trans hK1)
  have hA1 := hK1.same HA.out (by simp)
  have hB1 := hK1.same HB.out (by simp)
  have a4 := cell_of_block hA1 4
  have b4 := cell_of_block hB1 4
  have hal := lt_of_block hA1
  have hbl := lt_of_block hB1
  simp at a4 b4
  clear hK1 hA1 hB1 HSP
  go_wp2_with fail
  refine (HEQ.out _ HK1.out).mono ?_
  rintro e w2 ⟨rfl, hK2⟩
  have HK2 := hid (HK1.out.trans hK2)
  clear hK2 a4 b4 hal hbl
  go_wp2
  go_ret
  exact ⟨rfl, HK2.out⟩
theorem eq_go : ∀ n, EqGo n
  | 0 => fun _ _ _ _ _ _ h => absurd h (Nat.not_lt_zero _)
  | n + 1 => eq_step n (eq_go n)
theorem eqKey_self (k : Ky) (sv1 kv1 sv2 kv2 : Value) (w : World) (h1 : KeyIn 0 w k sv1 kv1) (h2 : KeyIn 0 w k sv2 kv2) :
    Calls Tryz.prog 14 #[.agg #[.int .i64 k.kind, .int .i64 k.flag, .string (bs k.text), sv1, kv1], .agg #[.int .i64 k.kind, .int .i64 k.flag, .string (bs k.text), sv2, kv2]] w fun e w' => e = .returned (.bool true) ∧ Kept [] w w' :=
  eq_go (nodesK k + 1) k sv1 kv1 sv2 kv2 w (Nat.lt_succ_self _) h1 h2
end Go.Proofs.YtoleonldkifcbaaGreatDoor
