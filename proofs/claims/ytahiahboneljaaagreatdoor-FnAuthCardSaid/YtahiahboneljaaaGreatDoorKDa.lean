/- The walks of the draws: a reader, strings, names, domains, users' rows. -/
import Derived.Test.YtahiahboneljaaaGreatDoorKWk
namespace Go.Proofs.YtahiahboneljaaaGreatDoor
open Go.RowKit

/-- A reader of a code lies at rb; it has read at most N times. -/
def RdAt (w : World) (rb N : Nat) : Prop :=
  ∃ a cap b off q, ∃ xs : List UInt8, w.heap[rb]? = some (.cells #[.slice a xs.length cap, .int .i64 (q : Nat)] 53 (0, 0)) ∧ q ≤ N ∧ xs.length ≤ 2000 ∧ xs.length ≤ cap ∧
    (0 < xs.length → a = some ⟨b, off, none⟩ ∧ b < rb) ∧ ∀ j (h : j < xs.length), w.cell? ⟨b, off + j, none⟩ = some (.int .u8 xs[j].toNat)
theorem RdAt.kept {w w' : World} {rb N : Nat} (h : RdAt w rb N) (k : Kept [] w w') : RdAt w' rb N := by
  obtain ⟨a, cap, b, off, q, xs, hb, hq, hl, hc, ha, hx⟩ := h
  exact ⟨a, cap, b, off, q, xs, k.same hb (by simp), hq, hl, hc, ha, fun j hj => k.cell_some (hx j hj) (by simp)⟩
theorem RdAt.mono {w : World} {rb N M : Nat} (h : RdAt w rb N) (hm : N ≤ M) : RdAt w rb M := by
  obtain ⟨a, cap, b, off, q, xs, hb, hq, hr⟩ := h
  exact ⟨a, cap, b, off, q, xs, hb, by omega, hr⟩
theorem RdAt.lt {w : World} {rb N : Nat} (h : RdAt w rb N) : rb < w.heap.size := by
  obtain ⟨a, cap, b, off, q, xs, hb, -⟩ := h; exact lt_of_block hb
theorem RdAt.keptB {w w' : World} {rb N : Nat} (h : RdAt w rb N) {cs : List Nat} (k : Kept cs w w') (hc : ∀ c ∈ cs, rb < c) : RdAt w' rb N := by
  obtain ⟨a, cap, b, off, q, xs, hb, hq, hl, hcp, ha, hx⟩ := h
  refine ⟨a, cap, b, off, q, xs, k.same hb (fun e => by have := hc _ e; omega), hq, hl, hcp, ha, fun j hj => k.cell_some (hx j hj) (fun e => ?_)⟩
  have := hc _ e
  have := (ha (by omega)).2
  dsimp only at *; omega

/-- What pick hands back. -/
def PickRes (n : Int) (rb N : Nat) (w : World) (e : Ending) (w' : World) : Prop := ∃ x : Int, e = .returned (.int .i64 x) ∧ 0 ≤ x ∧ (1 ≤ n → x < n) ∧ x ≤ 1000000 ∧ Kept [rb] w w' ∧ RdAt w' rb (N + 1)

theorem rd_store {w : World} {rb q b off cap : Nat} {a : Option Addr} {xs : List UInt8} (hb : w.heap[rb]? = some (.cells #[.slice a xs.length cap, .int .i64 (q : Nat)] 53 (0, 0))) (hl : xs.length ≤ 2000) (hc : xs.length ≤ cap)
    (ha : 0 < xs.length → a = some ⟨b, off, none⟩ ∧ b < rb) (hx : ∀ j (h : j < xs.length), w.cell? ⟨b, off + j, none⟩ = some (.int .u8 xs[j].toNat)) (N : Nat) (hq : q ≤ N) :
    RdAt (w.setCell ⟨rb, 1, none⟩ (.int .i64 ((q : Int) + 1))) rb (N + 1) := by
  refine ⟨a, cap, b, off, q + 1, xs, ?_, by omega, hl, hc, ha, fun j hj => ?_⟩
  · have := set_of_block hb (i := 1) (.int .i64 ((q : Int) + 1))
    simpa using this
  · have hbr := (ha (by omega)).2
    rw [World.cell?_setCell_other _ _ _ _ (by intro e; injection e; omega)]
    exact hx j hj

theorem wrap_nat (x : Int) (m : Nat) (h0 : 0 ≤ x) (h1 : x ≤ m) (h2 : m < 2 ^ 31) : ∃ v : Nat, IntKind.i64.wrap x = (v : Int) ∧ v ≤ m := by
  refine ⟨x.toNat, ?_, by omega⟩
  rw [wraps_i64_31 x h0 (by omega)]; omega
theorem xor_nat (a b : Nat) (ha : a < 2 ^ 31) (hb : b < 2 ^ 31) : ∃ x : Nat, bits .xor .i64 (a : Int) (b : Int) = (x : Int) ∧ x < 2 ^ 31 := by
  refine ⟨a ^^^ b, ?_, Nat.xor_lt_two_pow ha hb⟩
  have hp : 2 ^ 31 ≤ 2 ^ IntKind.i64.bits := Nat.pow_le_pow_right (by decide) (by decide)
  have ha' : a % 2 ^ IntKind.i64.bits = a := Nat.mod_eq_of_lt (by omega)
  have hb' : b % 2 ^ IntKind.i64.bits = b := Nat.mod_eq_of_lt (by omega)
  simp only [bits, BitVec.ofInt_natCast, BitVec.toNat_xor, BitVec.toNat_ofNat, ha', hb']
  exact wraps_i64_31 _ (Int.natCast_nonneg _) (by have := Nat.xor_lt_two_pow ha hb; exact_mod_cast this)
theorem pick_rems (q L : Nat) (hL : 0 < L) (hq : q ≤ 1000000) : ∃ k1 k2 k3 : Nat, (q : Int).tmod (L : Int) = (k1 : Int) ∧ ((q : Int) * 7 + 3).tmod (L : Int) = (k2 : Int) ∧ (q : Int).tdiv (L : Int) = (k3 : Int) ∧ k1 < L ∧ k2 < L ∧ k3 ≤ 1000000 := by
  refine ⟨q % L, (q * 7 + 3) % L, q / L, ?_, ?_, ?_, Nat.mod_lt _ hL, Nat.mod_lt _ hL, Nat.le_trans (Nat.div_le_self _ _) hq⟩
  · rw [Int.tmod_eq_emod_of_nonneg (by omega)]; rfl
  · rw [Int.tmod_eq_emod_of_nonneg (by omega)]; simp
  · rw [Int.tdiv_eq_ediv_of_nonneg (by omega)]; rfl
theorem pick_sums (A B : UInt8) (q k3 : Nat) (hq : q ≤ 1000000) (h3 : k3 ≤ 1000000) : ∃ v1 v2 v3 v4 v5 v6 v7 : Nat, IntKind.i64.wrap ((q : Int) * 7) = (q : Int) * 7 ∧ IntKind.i64.wrap ((q : Int) * 7 + 3) = (q : Int) * 7 + 3 ∧
    IntKind.i64.wrap (wrap64 (A.toNat : Int) * 131) = (v1 : Int) ∧ IntKind.i64.wrap (wrap64 (B.toNat : Int) * 1117) = (v2 : Int) ∧ IntKind.i64.wrap ((v1 : Int) + (v2 : Int)) = (v3 : Int) ∧ IntKind.i64.wrap ((q : Int) * 29) = (v4 : Int) ∧
    IntKind.i64.wrap ((v3 : Int) + (v4 : Int)) = (v5 : Int) ∧ IntKind.i64.wrap (k3 : Int) = (k3 : Int) ∧ IntKind.i64.wrap ((k3 : Int) * 53) = (v6 : Int) ∧ IntKind.i64.wrap ((v5 : Int) + (v6 : Int)) = (v7 : Int) ∧ v7 ≤ 100000000 := by
  have ha := A.toNat_lt
  have hb := B.toNat_lt
  refine ⟨A.toNat * 131, B.toNat * 1117, A.toNat * 131 + B.toNat * 1117, q * 29, A.toNat * 131 + B.toNat * 1117 + q * 29, k3 * 53, A.toNat * 131 + B.toNat * 1117 + q * 29 + k3 * 53, ?_, ?_, ?_, ?_, ?_, ?_, ?_, ?_, ?_, ?_, by omega⟩
  · exact wraps_i64_31 _ (by omega) (by omega)
  · exact wraps_i64_31 _ (by omega) (by omega)
  · rw [wrap_byte, wraps_i64_31 _ (by omega) (by omega)]; omega
  · rw [wrap_byte, wraps_i64_31 _ (by omega) (by omega)]; omega
  · rw [wraps_i64_31 _ (by omega) (by omega)]; omega
  · rw [wraps_i64_31 _ (by omega) (by omega)]; omega
  · rw [wraps_i64_31 _ (by omega) (by omega)]; omega
  · exact wraps_i64_31 _ (by omega) (by omega)
  · rw [wraps_i64_31 _ (by omega) (by omega)]; omega
  · rw [wraps_i64_31 _ (by omega) (by omega)]; omega

set_option maxHeartbeats 1000000 in
theorem pick_any (rb N : Nat) (n : Int) (w : World) (h : RdAt w rb N) (hN : N ≤ 1000000) (hn : n ≤ 1000000) :
    Calls Tryz.prog 20 #[.pointer (some ⟨rb, 0, none⟩), .int .i64 n] w (PickRes n rb N w) := by
  obtain ⟨a, cap, b, off, q, xs, hb, hq, hl, hcp, ha, hx⟩ := h
  have c0 := cell_of_block hb 0
  have c1 := cell_of_block hb 1
  simp at c0 c1
  have f1 := frozen_of_block hb 1
  have hlt := lt_of_block hb
  have HR := hid (rd_store hb hl hcp ha hx N hq)
  have HK := hid ((Kept.refl [rb] w).setCell ⟨rb, 1, none⟩ (.int .i64 ((q : Int) + 1)) (by simp))
  have hq1 : (q : Int) + 1 ≤ 1000002 := by omega
  have HX := hid hx
  clear hb hx
  by_cases h1 : n < 1
  · clear ha
    go_enter Tryz.func20, Tryz.ntmps20
    go_wp2
    go_ret
    exact ⟨0, rfl, by omega, by omega, by omega, HK.out, HR.out⟩
  · by_cases h0 : xs.length = 0
    · have h0' : (xs.length : Int) = 0 := by omega
      clear ha
      go_enter Tryz.func20, Tryz.ntmps20
      go_wp2
      go_ret
      exact ⟨0, rfl, by omega, by omega, by omega, HK.out, HR.out⟩
    · obtain ⟨rfl, hbr⟩ := ha (by omega)
      have hbr' : ¬ b = rb := by omega
      have h0' : ((xs.length : Int) == 0) = false := by rw [beq_eq_false_iff_ne]; omega
      have hL : 0 < xs.length := by omega
      clear ha h0
      by_cases hlt2 : q < xs.length
      · have hlt3 : (q : Int) < xs.length := by omega
        have hlt4 : q < cap := by omega
        have hc := HX.out q hlt2
        obtain ⟨g0, g1⟩ := wrap_bd xs[q]
        go_enter Tryz.func20, Tryz.ntmps20
        go_wp2
        go_ret
        refine ⟨_, rfl, Int.emod_nonneg _ (by omega), fun _ => Int.emod_lt_of_pos _ (by omega), ?_, HK.out, HR.out⟩
        have := Int.emod_lt_of_pos (wrap64 (xs[q].toNat : Int)) (show 0 < n by omega)
        omega
      · have hlt3 : ¬ (q : Int) < xs.length := by omega
        obtain ⟨k1, k2, k3, t1, t2, t3, u1, u2, u3⟩ := pick_rems q xs.length hL (by omega)
        obtain ⟨A, hA⟩ : ∃ A : UInt8, w.cell? ⟨b, off + k1, none⟩ = some (.int .u8 A.toNat) := ⟨_, HX.out k1 u1⟩
        obtain ⟨B, hB⟩ : ∃ B : UInt8, w.cell? ⟨b, off + k2, none⟩ = some (.int .u8 B.toNat) := ⟨_, HX.out k2 u2⟩
        obtain ⟨v1, v2, v3, v4, v5, v6, v7, w1, w2, e1, e2, e3, e4, e5, e8, e6, e7, b7⟩ := pick_sums A B q k3 (by omega) u3
        go_enter Tryz.func20, Tryz.ntmps20
        go_wp2
        refine gen_world (fun W => W.cell? ⟨rb, 0, none⟩ = some (.slice (some ⟨b, off, none⟩) xs.length cap) ∧ W.cell? ⟨b, off + k1, none⟩ = some (.int .u8 A.toNat) ∧ W.cell? ⟨b, off + k2, none⟩ = some (.int .u8 B.toNat) ∧ Kept [rb] w W ∧ RdAt W rb (N + 1)) ⟨?_, ?_, ?_, HK.out, HR.out⟩ ?_
        · rw [World.cell?_setCell_other _ _ _ _ (by intro e; injection e; omega)]; exact c0
        · rw [World.cell?_setCell_other _ _ _ _ (by intro e; injection e; omega)]; exact hA
        · rw [World.cell?_setCell_other _ _ _ _ (by intro e; injection e; omega)]; exact hB
        clear HX HR HK hA hB c0 c1 f1
        rintro W ⟨c0, cA, cB, hK, hR⟩
        have HK := hid hK
        have HR := hid hR
        clear hK hR
        have l0 : ¬ (xs.length : Int) = 0 := by omega
        have i1 : (k1 : Int) < xs.length := by omega
        have i2 : (k2 : Int) < xs.length := by omega
        have i3 : k1 < cap := by omega
        have i4 : k2 < cap := by omega
        clear u1 u2 u3 hq hl hcp hlt hlt2 hlt3 hL hq1 hN hbr hbr'
        go_quiet (fail)
        clear e1 e2 e3 e4 e5 e6 e7 e8 c0 cA cB w1 w2 i1 i2 i3 i4 l0 t1 t2 t3
        obtain ⟨y, d1, hy⟩ : ∃ y : Nat, (v7 : Int) / 64 = (y : Int) ∧ y < 2 ^ 31 := ⟨v7 / 64, by omega, by omega⟩
        obtain ⟨x, hx, hx0⟩ := xor_nat v7 y (by omega) hy
        have HN := hid hn
        have hwy : wrap64 (y : Int) = (y : Int) := by unfold wrap64; omega
        clear b7 hx0 hn hy
        go_wp2
        go_ret
        have hn1 := HN.out
        have z0 := Int.emod_nonneg (x : Int) (show n ≠ 0 by omega)
        have z1 := Int.emod_lt_of_pos (x : Int) (show 0 < n by omega)
        exact ⟨_, rfl, z0, fun _ => z1, Int.le_trans (Int.le_of_lt z1) hn1, HK.out.drewN _, HR.out.kept ((Kept.refl [] _).drewN _)⟩
end Go.Proofs.YtahiahboneljaaaGreatDoor
namespace Go.Proofs.YtahiahboneljaaaGreatDoor
open Go.RowKit

/-- What a draw of a string hands back. -/
def StrRes (rb N : Nat) (w : World) (e : Ending) (w' : World) : Prop := ∃ l : List UInt8, e = .returned (.string (bs l)) ∧ l.length ≤ 40 ∧ Kept [rb] w w' ∧ RdAt w' rb N

/-- A code in memory. -/
def CodeAt (w : World) (v : Value) : Prop :=
  ∃ a cap b off, ∃ xs : List UInt8, v = .slice a xs.length cap ∧ xs.length ≤ cap ∧ (0 < xs.length → a = some ⟨b, off, none⟩ ∧ b < w.heap.size) ∧ ∀ j (h : j < xs.length), w.cell? ⟨b, off + j, none⟩ = some (.int .u8 xs[j].toNat)

theorem of_any (rb N : Nat) (L : List (List UInt8)) (v : Value) (w : World) (h : RdAt w rb N) (hN : N ≤ 1000000) (hv : StrsAt (rb + 1) w v L) (h0 : 0 < L.length) (hL : L.length ≤ 100) :
    Calls Tryz.prog 37 #[.pointer (some ⟨rb, 0, none⟩), v] w fun e w' => ∃ l ∈ L, e = .returned (.string (bs l)) ∧ Kept [rb] w w' ∧ RdAt w' rb (N + 1) := by
  obtain ⟨a, cap, rfl⟩ := hv.form
  have HP := hid (pick_any rb N (L.length : Nat) w h hN (by omega))
  have HV := hid (fun w' (k : Kept [rb] w w') => hv.kept k (by simp))
  have h1' : (1 : Int) ≤ (L.length : Nat) := by omega
  have hcap : L.length ≤ cap := by obtain ⟨a', cap', b, off, he, -, hc, -⟩ := hv; injection he with e1 e2 e3; omega
  clear h hv
  go_enter Tryz.func37, Tryz.ntmps37
  go_wp2_with fail
  refine HP.out.mono ?_
  rintro e w1 ⟨x, rfl, x0, x1, -, hK, hR⟩
  obtain ⟨k, rfl⟩ := Int.eq_ofNat_of_zero_le x0
  have hx := x1 h1'
  have hk : k < L.length := by omega
  obtain ⟨a', cap', b, off, he, -, hc, ha, hcl⟩ := HV.out _ hK
  obtain ⟨rfl, -, -⟩ := ha h0
  injection he with e1 e2 e3
  subst e1 e3
  obtain ⟨hcell, -⟩ := hcl k hk
  have HK := hid hK
  have HR := hid hR
  have hkc : k < cap := by omega
  clear hK hR hcl x1
  go_wp2
  go_ret
  exact ⟨_, List.getElem_mem hk, rfl, HK.out, HR.out⟩

theorem lits_at (w : World) (xs : List (List UInt8)) (lo : Nat) (T : TypeId) (hlo : lo ≤ w.heap.size) (hx : ∀ l ∈ xs, l.length ≤ 40) (hl : xs.length ≤ 100) :
    StrsAt lo (w.alloc (Obj.cells (xs.map (fun l => Value.string (bs l))).toArray T)) (.slice (some ⟨w.heap.size, 0, none⟩) xs.length xs.length) xs := by
  refine ⟨_, _, w.heap.size, 0, rfl, by unfold bigN; omega, Nat.le_refl _, fun _ => ⟨rfl, hlo, by simp⟩, fun j hj => ⟨?_, ?_⟩⟩
  · rw [cell_of_block (new_block w _)]; simp [hj]
  · have := hx _ (List.getElem_mem hj); unfold bigN; omega

theorem lits_of (rb N : Nat) (xs : List (List UInt8)) (hx : ∀ l ∈ xs, l.length ≤ 40) (hl : xs.length ≤ 100) (h0 : 0 < xs.length) (hN : N ≤ 1000000) (w : World) (h : RdAt w rb N) :
    Calls Tryz.prog 37 #[.pointer (some ⟨rb, 0, none⟩), .slice (some ⟨w.heap.size, 0, none⟩) xs.length xs.length] (w.alloc (Obj.cells (xs.map (fun l => Value.string (bs l))).toArray 9)) (StrRes rb (N + 1) w) := by
  have hlt := h.lt
  refine (of_any rb N xs _ _ (h.kept ((Kept.refl [] w).alloc _)) hN (lits_at w xs (rb + 1) _ hlt hx hl) h0 hl).mono ?_
  rintro e w' ⟨l, hm, rfl, hK, hR⟩
  exact ⟨l, rfl, hx l hm, ((Kept.refl [rb] w).alloc _).trans hK, hR⟩

theorem l91Name_any (rb N : Nat) (w : World) (h : RdAt w rb N) (hN : N ≤ 1000000 - 1) :
    Calls Tryz.prog 34 #[.pointer (some ⟨rb, 0, none⟩)] w (StrRes rb (N + 2) w) := by
  have HP := hid (pick_any rb N 16 w h (by omega) (by omega))
  have HO1 := hid (lits_of rb (N + 1) [[], [65], [116, 111, 111, 108, 111, 110, 103, 49, 50], [97, 45, 98], [101, 105, 103, 104, 116, 56, 56, 56], [48], [97, 110, 121, 111, 110, 101]] (by decide) (by decide) (by decide) (by omega))
  have HO2 := hid (lits_of rb (N + 1) [[97, 109, 121], [98, 111, 98], [99, 121, 100], [100, 97, 110], [98, 111, 120, 49], [120]] (by decide) (by decide) (by decide) (by omega))
  clear h hN
  go_enter Tryz.func34, Tryz.ntmps34
  go_wp2_with fail
  refine HP.out.mono ?_
  rintro e w1 ⟨x, rfl, h0, h1, -, hK1, hR1⟩
  have HK := hid hK1
  have HR := hid hR1
  clear h1 hK1 hR1
  by_cases hx : x = 0
  · subst hx
    go_wp2_with fail
    refine (HO1.out _ HR.out).mono ?_
    rintro e w2 ⟨l, rfl, hl, hK, hR⟩
    have HK2 := hid hK
    have HR2 := hid hR
    clear hK hR
    go_wp2
    go_ret
    exact ⟨_, rfl, hl, HK.out.trans HK2.out, HR2.out⟩
  · have hx' : (x == 0) = false := by rw [beq_eq_false_iff_ne]; exact hx
    go_wp2_with fail
    refine (HO2.out _ HR.out).mono ?_
    rintro e w2 ⟨l, rfl, hl, hK, hR⟩
    have HK2 := hid hK
    have HR2 := hid hR
    clear hK hR
    go_wp2
    go_ret
    exact ⟨_, rfl, hl, HK.out.trans HK2.out, HR2.out⟩

theorem l91Domain_any (rb N : Nat) (w : World) (h : RdAt w rb N) (hN : N ≤ 1000000 - 1) :
    Calls Tryz.prog 21 #[.pointer (some ⟨rb, 0, none⟩)] w (StrRes rb (N + 2) w) := by
  have HP := hid (pick_any rb N 12 w h (by omega) (by omega))
  have HO1 := hid (lits_of rb (N + 1) [[], [46], [97, 46, 46, 98], [97, 46, 98, 46, 99, 46, 100], [97, 46, 98, 46, 99], [97, 98, 99, 100, 101, 102, 103, 104, 46, 97, 98, 99, 100, 101, 102, 103, 104, 46, 97, 98, 99], [97, 98, 99, 100, 101, 102, 103, 104, 46, 97, 98, 99, 100, 101, 102, 103, 104, 46, 97, 98], [104, 111, 115, 116, 46], [72, 111, 115, 116, 46, 111, 114, 103]] (by decide) (by decide) (by decide) (by omega))
  have HO2 := hid (lits_of rb (N + 1) [[104, 111, 115, 116, 46, 111, 114, 103], [104, 111, 115, 116], [97, 46, 98, 46, 99], [111, 116, 104, 101, 114, 46, 110, 101, 116]] (by decide) (by decide) (by decide) (by omega))
  clear h hN
  go_enter Tryz.func21, Tryz.ntmps21
  go_wp2_with fail
  refine HP.out.mono ?_
  rintro e w1 ⟨x, rfl, h0, h1, -, hK1, hR1⟩
  have HK := hid hK1
  have HR := hid hR1
  clear h1 hK1 hR1
  by_cases hx : x = 0
  · subst hx
    go_wp2_with fail
    refine (HO1.out _ HR.out).mono ?_
    rintro e w2 ⟨l, rfl, hl, hK, hR⟩
    have HK2 := hid hK
    have HR2 := hid hR
    clear hK hR
    go_wp2
    go_ret
    exact ⟨_, rfl, hl, HK.out.trans HK2.out, HR2.out⟩
  · have hx' : (x == 0) = false := by rw [beq_eq_false_iff_ne]; exact hx
    go_wp2_with fail
    refine (HO2.out _ HR.out).mono ?_
    rintro e w2 ⟨l, rfl, hl, hK, hR⟩
    have HK2 := hid hK
    have HR2 := hid hR
    clear hK hR
    go_wp2
    go_ret
    exact ⟨_, rfl, hl, HK.out.trans HK2.out, HR2.out⟩
end Go.Proofs.YtahiahboneljaaaGreatDoor
namespace Go.Proofs.YtahiahboneljaaaGreatDoor
open Go.RowKit

theorem l6Open_any (v : Value) (w : World) (h : CodeAt w v) :
    Calls Tryz.prog 17 #[v] w fun e w' => e = .returned (.pointer (some ⟨w.heap.size, 0, none⟩)) ∧ Kept [] w w' ∧ RdAt w' w.heap.size 0 := by
  obtain ⟨a, cap, b, off, xs, rfl, hc, ha, hx⟩ := h
  have HX := hid hx
  have HA := hid ha
  have HC := hid hc
  clear hx ha
  by_cases h2 : 2000 < xs.length
  · obtain ⟨rfl, hb⟩ := HA.out (by omega)
    have h2' : (2000 : Int) < xs.length := by omega
    have h3 : 2000 ≤ cap := by omega
    have h3' : (2000 : Int) ≤ cap := by omega
    have HB := hid hb
    clear hb hc
    go_enter Tryz.func17, Tryz.ntmps17
    go_wp2
    go_ret
    refine ⟨rfl, (Kept.refl [] w).alloc _, _, cap, b, off, 0, xs.take 2000, ?_, Nat.le_refl _, by rw [List.length_take]; omega, ?_, fun _ => ⟨rfl, HB.out⟩, fun j hj => ?_⟩
    · rw [new_block]; simp; omega
    · simp; omega
    · simp at hj
      rw [((Kept.refl [] w).alloc _).cell_some (HX.out j (by omega)) (by simp)]
      simp
  · have h2' : ¬ (2000 : Int) < xs.length := by omega
    go_enter Tryz.func17, Tryz.ntmps17
    go_wp2
    go_ret
    refine ⟨rfl, (Kept.refl [] w).alloc _, _, _, b, off, 0, xs, new_block _ _, Nat.le_refl _, by omega, HC.out, HA.out, fun j hj => ?_⟩
    exact ((Kept.refl [] w).alloc _).cell_some (HX.out j hj) (by simp)
end Go.Proofs.YtahiahboneljaaaGreatDoor
namespace Go.Proofs.YtahiahboneljaaaGreatDoor
open Go.RowKit

theorem l6Many_any (s : List UInt8) (n : Nat) (w : World) (h : s.length * n ≤ 3000) (hs : s.length ≤ 3000) (hn : n ≤ 3000) :
    Calls Tryz.prog 35 #[.string (bs s), .int .i64 (n : Nat)] w fun e w' => (∃ l : List UInt8, e = .returned (.string (bs l)) ∧ l.length ≤ 3000) ∧ Kept [] w w' := by
  go_enter Tryz.func35, Tryz.ntmps35
  go_wp2
  go_loopg [0, 1, 5] n (fun m sv nv ov wr => ∃ (x o : List UInt8), m ≤ 3000 ∧ sv = .string (bs x) ∧ nv = .int .i64 (m : Nat) ∧ ov = .string (bs o) ∧ o.length + x.length * m ≤ 3000 ∧ x.length ≤ 6000 ∧ wr = w)
  case atStart => exact ⟨s, [], hn, rfl, rfl, rfl, by simpa using h, by omega, rfl⟩
  case round =>
    obtain ⟨x, o, hm, rfl, rfl, rfl, hb, hx, rfl⟩ := hrel
    have HB := hid hb
    have HX := hid hx
    have HM := hid hm
    have hxx : (x.length : Int) + x.length ≤ 9223372036854775807 := by omega
    have hg0 : (0 : Int) ≤ gk := by omega
    rcases Nat.eq_zero_or_pos gk with rfl | hp
    · clear hb hx hm
      go_wp2
      go_ret
      exact ⟨⟨o, rfl, by have := HB.out; omega⟩, Kept.refl _ _⟩
    · have hx3 : x.length ≤ 3000 := by have := Nat.le_mul_of_pos_right x.length hp; omega
      have ho3 : o.length ≤ 3000 := by omega
      have hox : (o.length : Int) + x.length ≤ 9223372036854775807 := by omega
      have HX3 := hid hx3
      have hp' : (0 : Int) < gk := by omega
      have hmul : x.length * gk = (x.length + x.length) * (gk / 2) + x.length * (gk % 2) := by
        have h1 : gk = 2 * (gk / 2) + gk % 2 := by omega
        rw [← Nat.two_mul, Nat.mul_comm 2 x.length, Nat.mul_assoc, ← Nat.mul_add, ← h1]
      have HMU := hid hmul
      obtain ⟨q, hq, hq2⟩ : ∃ q : Nat, gk / 2 = q ∧ (gk : Int) / 2 = (q : Int) := ⟨gk / 2, rfl, by omega⟩
      have HQ := hid hq
      rcases Nat.mod_two_eq_zero_or_one gk with h2 | h2
      · have h2' : ¬ (gk : Int) % 2 = 1 := by omega
        have H2 := hid h2
        clear hb hx hm hx3 ho3 hmul hq h2
        go_wp2
        go_roundg q
        case measure => have := HQ.out; omega
        case rel =>
          refine ⟨x ++ x, o, by have := HQ.out; have := HM.out; omega, by rw [append_bs], int_eq (by have := HQ.out; have := HM.out; unfold wrap64; omega), rfl, ?_, by have := HX3.out; simp; omega, rfl⟩
          have := HB.out; have h1 := HMU.out; rw [H2.out, HQ.out] at h1; simp; omega
      · have h2' : (gk : Int) % 2 = 1 := by omega
        have H2 := hid h2
        clear hb hx hm hx3 ho3 hmul hq h2
        go_wp2
        go_roundg q
        case measure => have := HQ.out; omega
        case rel =>
          refine ⟨x ++ x, o ++ x, by have := HQ.out; have := HM.out; omega, by rw [append_bs], int_eq (by have := HQ.out; have := HM.out; unfold wrap64; omega), by rw [append_bs], ?_, by have := HX3.out; simp; omega, rfl⟩
          have := HB.out; have h1 := HMU.out; rw [H2.out, HQ.out] at h1; simp; omega
end Go.Proofs.YtahiahboneljaaaGreatDoor
namespace Go.Proofs.YtahiahboneljaaaGreatDoor
open Go.RowKit

theorem inf_user : (Tryz.prog.info? 35).map (fun i => (i.zero, i.size, i.bytes)) = some (some (.agg #[.string ⟨#[]⟩, .string ⟨#[]⟩, .int .i64 0]), 3, 40) := by kernel_rfl

theorem append_usrs {ops : Array Oper} {rest : List Oper} {o : Oper} {a : Act} {w : World} {Q : Exit → Act → World → Prop} (hgd : o.guard = none) (s x : Operand)
    (ho : o.op = .call { callee := .builtin .append, args := #[s, x], argTypes := #[26, 26] })
    (base : Nat) (v : Value) (n : Nat) (xs : List Value) (hs : a.eval s = v) (hown : w.ownsRow base 35 3 v n xs)
    (g0 m : Nat) (news : List Value) (hx : a.eval x = .slice (some ⟨g0, 0, none⟩) m m) (hb : w.heap[g0]? = some (.cells news.toArray 35 (0, 0))) (hm : news.length = m * 3) (h1 : ∀ u ∈ news, u.oneCell' = true) (hn : n + m ≤ 1000) (hn0 : 0 < n + m) (hbase : base ≤ w.heap.size)
    (h : ∀ g cap w', w'.ownsRow base 35 3 (.slice (some ⟨g, 0, none⟩) (n + m) cap) (n + m) (xs ++ news) → w.grownBy w' v.ownBlock → wpList Tryz.prog ops Q rest (a.put o.dst (.slice (some ⟨g, 0, none⟩) (n + m) cap)) w') : wpList Tryz.prog ops Q (o :: rest) a w := by
  obtain ⟨i0, hi, hz0, hz1, hz2⟩ := info_parts inf_user
  refine wpList_append_own w hgd s x 26 ho base 35 i0 _ 3 40 Tryz.underlying26 hi hz0 hz1 hz2 rfl (by decide) v n xs hs hown ⟨g0, 0, none⟩ m m news hx hm ?_ h1 ?_ ?_ hbase (fun v' w' h1 h2 _ => ?_)
  · intro j u hj
    rw [Addr.add_lit, Nat.zero_add, cell_of_block hb]
    simpa using hj
  · unfold maxLen; omega
  · omega
  · obtain ⟨g, cap, rfl, -⟩ := own_open h1 hn0
    exact h g cap w' h1 h2

/-- A user's cells. -/
def ucs (u : Usr) : List Value := [.string (bs u.name), .string (bs u.pass), .int .i64 u.quota]
theorem ucs_get (us : List Usr) (j i : Nat) (hj : j < us.length) (hi : i < 3) : (us.flatMap ucs)[j * 3 + i]? = (ucs us[j])[i]? := by
  induction us generalizing j with
  | nil => simp at hj
  | cons a t ih =>
    have hl : (ucs a).length = 3 := rfl
    rw [List.flatMap_cons]
    cases j with
    | zero => rw [List.getElem?_append_left (by rw [hl]; omega)]; simp
    | succ j =>
      rw [List.getElem?_append_right (by rw [hl]; omega), hl]
      have := ih j (by simpa using hj)
      rw [show (j + 1) * 3 + i - 3 = j * 3 + i by omega, this]
      simp
theorem own_users {w : World} {base cap g : Nat} {us : List Usr} (h : w.ownsRow base 35 3 (.slice (some ⟨g, 0, none⟩) us.length cap) us.length (us.flatMap ucs)) (hn : 0 < us.length) (hl : us.length ≤ 1000) (hu : ∀ u ∈ us, u.name.length ≤ 40 ∧ u.pass.length ≤ 40) : UsersAt base w (.slice (some ⟨g, 0, none⟩) us.length cap) us := by
  obtain ⟨g', cap', hv, hg, hh, _, _, hc⟩ := own_open h hn
  injection hv with e1 e2 e3
  injection e1 with e1
  injection e1 with e1
  subst e1
  refine ⟨_, cap, g, 0, rfl, by unfold bigN; omega, fun _ => ⟨rfl, hg, hh⟩, fun j hj => ?_⟩
  have hx := hu us[j] (List.getElem_mem hj)
  have cell : ∀ i, i < 3 → w.cell? ⟨g, j * 3 + i, none⟩ = (ucs us[j])[i]? := fun i hi => by
    rcases hc (j * 3 + i) with h1 | h1
    · rw [h1, ucs_get us j i hj hi]
    · omega
  refine ⟨?_, ?_, ?_, by have := hx.1; unfold bigN; omega, by have := hx.2; unfold bigN; omega⟩
  · rw [Nat.zero_add]; exact cell 0 (by omega)
  · rw [Nat.zero_add]; exact cell 1 (by omega)
  · rw [Nat.zero_add]; exact cell 2 (by omega)
end Go.Proofs.YtahiahboneljaaaGreatDoor
