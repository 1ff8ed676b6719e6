/- The walks of the draws: a reader, strings, sets. -/
import Derived.Test.YtoleonldkifcbaaGreatDoorKWa
import Derived.Test.YtoleonldkifcbaaGreatDoorKB
import Derived.Test.YtoleonldkifcbaaGreatDoorKKc
namespace Go.Proofs.YtoleonldkifcbaaGreatDoor
open Go.RowKit

/-- A reader of a code lies at rb; it has read at most N times. -/
def RdAt (w : World) (rb N : Nat) : Prop :=
  ∃ a cap b off q, ∃ xs : List UInt8, w.heap[rb]? = some (.cells #[.slice a xs.length cap, .int .i64 (q : Nat)] 61 (0, 0)) ∧ q ≤ N ∧ xs.length ≤ 2000 ∧ xs.length ≤ cap ∧
    (0 < xs.length → a = some ⟨b, off, none⟩ ∧ b < rb) ∧ ∀ j (h : j < xs.length), w.cell? ⟨b, off + j, none⟩ = some (.int .u8 xs[j].toNat)
theorem RdAt.kept {w w' : World} {rb N : Nat} (h : RdAt w rb N) (k : Kept [] w w') : RdAt w' rb N := by
  obtain ⟨a, cap, b, off, q, xs, hb, hq, hl, hc, ha, hx⟩ := h
  exact ⟨a, cap, b, off, q, xs, k.same hb (by simp), hq, hl, hc, ha, fun j hj => k.cell_some (hx j hj) (by simp)⟩
theorem RdAt.mono {w : World} {rb N M : Nat} (h : RdAt w rb N) (hm : N ≤ M) : RdAt w rb M := by
  obtain ⟨a, cap, b, off, q, xs, hb, hq, hr⟩ := h
  exact ⟨a, cap, b, off, q, xs, hb, by omega, hr⟩
theorem RdAt.lt {w : World} {rb N : Nat} (h : RdAt w rb N) : rb < w.heap.size := by
  obtain ⟨a, cap, b, off, q, xs, hb, -⟩ := h; exact lt_of_block hb
theorem RdAt.keptB {w w' : World} {rb N : Nat} (h : RdAt w rb N) {cs : List Nat} (k : Kept cs w w') (hc : ∀ c ∈ cs, rb < c) : RdAt w' rb N := by
  obtain ⟨a, cap, b, off, q, xs, hb, hq, hl, hcp, ha, hx⟩ := h
  refine ⟨a, cap, b, off, q, xs, k.same hb (fun e => by have := hc _ e; omega), hq, hl, hcp, ha, fun j hj => k.cell_some (hx j hj) (fun e => ?_)⟩
  have := hc _ e
  have := (ha (by omega)).2
  dsimp only at *; omega

/-- What pick hands back. -/
def PickRes (n : Int) (rb N : Nat) (w : World) (e : Ending) (w' : World) : Prop := ∃ x : Int, e = .returned (.int .i64 x) ∧ 0 ≤ x ∧ (1 ≤ n → x < n) ∧ x ≤ 1000000 ∧ Kept [rb] w w' ∧ RdAt w' rb (N + 1)

theorem rd_store {w : World} {rb q b off cap : Nat} {a : Option Addr} {xs : List UInt8} (hb : w.heap[rb]? = some (.cells #[.slice a xs.length cap, .int .i64 (q : Nat)] 61 (0, 0))) (hl : xs.length ≤ 2000) (hc : xs.length ≤ cap)
    (ha : 0 < xs.length → a = some ⟨b, off, none⟩ ∧ b < rb) (hx : ∀ j (h : j < xs.length), w.cell? ⟨b, off + j, none⟩ = some (.int .u8 xs[j].toNat)) (N : Nat) (hq : q ≤ N) :
    RdAt (w.setCell ⟨rb, 1, none⟩ (.int .i64 ((q : Int) + 1))) rb (N + 1) := by
  refine ⟨a, cap, b, off, q + 1, xs, ?_, by omega, hl, hc, ha, fun j hj => ?_⟩
  · have := set_of_block hb (i := 1) (.int .i64 ((q : Int) + 1))
    simpa using this
  · have hbr := (ha (by omega)).2
    rw [World.cell?_setCell_other _ _ _ _ (by intro e; injection e; omega)]
    exact hx j hj

theorem wrap_nat (x : Int) (m : Nat) (h0 : 0 ≤ x) (h1 : x ≤ m) (h2 : m < 2 ^ 31) : ∃ v : Nat, IntKind.i64.wrap x = (v : Int) ∧ v ≤ m := by
  refine ⟨x.toNat, ?_, by omega⟩
  rw [wraps_i64_31 x h0 (by omega)]; omega
theorem xor_nat (a b : Nat) (ha : a < 2 ^ 31) (hb : b < 2 ^ 31) : ∃ x : Nat, bits .xor .i64 (a : Int) (b : Int) = (x : Int) ∧ x < 2 ^ 31 := by
  refine ⟨a ^^^ b, ?_, Nat.xor_lt_two_pow ha hb⟩
  have hp : 2 ^ 31 ≤ 2 ^ IntKind.i64.bits := Nat.pow_le_pow_right (by decide) (by decide)
  have ha' : a % 2 ^ IntKind.i64.bits = a := Nat.mod_eq_of_lt (by omega)
  have hb' : b % 2 ^ IntKind.i64.bits = b := Nat.mod_eq_of_lt (by omega)
  simp only [bits, BitVec.ofInt_natCast, BitVec.toNat_xor, BitVec.toNat_ofNat, ha', hb']
  exact wraps_i64_31 _ (Int.natCast_nonneg _) (by have := Nat.xor_lt_two_pow ha hb; exact_mod_cast this)
theorem pick_rems (q L : Nat) (hL : 0 < L) (hq : q ≤ 1000000) : ∃ k1 k2 k3 : Nat, (q : Int).tmod (L : Int) = (k1 : Int) ∧ ((q : Int) * 7 + 3).tmod (L : Int) = (k2 : Int) ∧ (q : Int).tdiv (L : Int) = (k3 : Int) ∧ k1 < L ∧ k2 < L ∧ k3 ≤ 1000000 := by
  refine ⟨q % L, (q * 7 + 3) % L, q / L, ?_, ?_, ?_, Nat.mod_lt _ hL, Nat.mod_lt _ hL, Nat.le_trans (Nat.div_le_self _ _) hq⟩
  · rw [Int.tmod_eq_emod_of_nonneg (by omega)]; rfl
  · rw [Int.tmod_eq_emod_of_nonneg (by omega)]; simp
  · rw [Int.tdiv_eq_ediv_of_nonneg (by omega)]; rfl
theorem pick_sums (A B : UInt8) (q k3 : Nat) (hq : q ≤ 1000000) (h3 : k3 ≤ 1000000) : ∃ v1 v2 v3 v4 v5 v6 v7 : Nat, IntKind.i64.wrap ((q : Int) * 7) = (q : Int) * 7 ∧ IntKind.i64.wrap ((q : Int) * 7 + 3) = (q : Int) * 7 + 3 ∧
    IntKind.i64.wrap (wrap64 (A.toNat : Int) * 131) = (v1 : Int) ∧ IntKind.i64.wrap (wrap64 (B.toNat : Int) * 1117) = (v2 : Int) ∧ IntKind.i64.wrap ((v1 : Int) + (v2 : Int)) = (v3 : Int) ∧ IntKind.i64.wrap ((q : Int) * 29) = (v4 : Int) ∧
    IntKind.i64.wrap ((v3 : Int) + (v4 : Int)) = (v5 : Int) ∧ IntKind.i64.wrap (k3 : Int) = (k3 : Int) ∧ IntKind.i64.wrap ((k3 : Int) * 53) = (v6 : Int) ∧ IntKind.i64.wrap ((v5 : Int) + (v6 : Int)) = (v7 : Int) ∧ v7 ≤ 100000000 := by
  have ha := A.toNat_lt
  have hb := B.toNat_lt
  refine ⟨A.toNat * 131, B.toNat * 1117, A.toNat * 131 + B.toNat * 1117, q * 29, A.toNat * 131 + B.toNat * 1117 + q * 29, k3 * 53, A.toNat * 131 + B.toNat * 1117 + q * 29 + k3 * 53, ?_, ?_, ?_, ?_, ?_, ?_, ?_, ?_, ?_, ?_, by omega⟩
  · exact wraps_i64_31 _ (by omega) (by omega)
  · exact wraps_i64_31 _ (by omega) (by omega)
  · rw [wrap_byte, wraps_i64_31 _ (by omega) (by omega)]; omega
  · rw [wrap_byte, wraps_i64_31 _ (by omega) (by omega)]; omega
  · rw [wraps_i64_31 _ (by omega) (by omega)]; omega
  · rw [wraps_i64_31 _ (by omega) (by omega)]; omega
  · rw [wraps_i64_31 _ (by omega) (by omega)]; omega
  · exact wraps_i64_31 _ (by omega) (by omega)
  · rw [wraps_i64_31 _ (by omega) (by omega)]; omega
  · rw [wraps_i64_31 _ (by omega) (by omega)]; omega

set_option maxHeartbeats 1000000 in
theorem pick_any (rb N : Nat) (n : Int) (w : World) (h : RdAt w rb N) (hN : N ≤ 1000000) (hn : n ≤ 1000000) :
    Calls Tryz.prog 27 #[.pointer (some ⟨rb, 0, none⟩), .int .i64 n] w (PickRes n rb N w) := by
  obtain ⟨a, cap, b, off, q, xs, hb, hq, hl, hcp, ha, hx⟩ := h
  have c0 := cell_of_block hb 0
  have c1 := cell_of_block hb 1
  simp at c0 c1
  have f1 := frozen_of_block hb 1
  have hlt := lt_of_block hb
  have HR := hid (rd_store hb hl hcp ha hx N hq)
  have HK := hid ((Kept.refl [rb] w).setCell ⟨rb, 1, none⟩ (.int .i64 ((q : Int) + 1)) (by simp))
  have hq1 : (q : Int) + 1 ≤ 1000002 := by omega
  have HX := hid hx
  clear hb hx
  by_cases h1 : n < 1
  · clear ha
    go_enter Tryz.func27, Tryz.ntmps27
    go_wp2
    go_ret
    exact ⟨0, rfl, by omega, by omega, by omega, HK.out, HR.out⟩
  · by_cases h0 : xs.length = 0
    · have h0' : (xs.length : Int) = 0 := by omega
      clear ha
      go_enter Tryz.func27, Tryz.ntmps27
      go_wp2
      go_ret
      exact ⟨0, rfl, by omega, by omega, by omega, HK.out, HR.out⟩
    · obtain ⟨rfl, hbr⟩ := ha (by omega)
      have hbr' : ¬ b = rb := by omega
      have h0' : ((xs.length : Int) == 0) = false := by rw [beq_eq_false_iff_ne]; omega
      have hL : 0 < xs.length := by omega
      clear ha h0
      by_cases hlt2 : q < xs.length
      · have hlt3 : (q : Int) < xs.length := by omega
        have hlt4 : q < cap := by omega
        have hc := HX.out q hlt2
        obtain ⟨g0, g1⟩ := wrap_bd xs[q]
        go_enter Tryz.func27, Tryz.ntmps27
        go_wp2
        go_ret
        refine ⟨_, rfl, Int.emod_nonneg _ (by omega), fun _ => Int.emod_lt_of_pos _ (by omega), ?_, HK.out, HR.out⟩
        have := Int.emod_lt_of_pos (wrap64 (xs[q].toNat : Int)) (show 0 < n by omega)
        omega
      · have hlt3 : ¬ (q : Int) < xs.length := by omega
        obtain ⟨k1, k2, k3, t1, t2, t3, u1, u2, u3⟩ := pick_rems q xs.length hL (by omega)
        obtain ⟨A, hA⟩ : ∃ A : UInt8, w.cell? ⟨b, off + k1, none⟩ = some (.int .u8 A.toNat) := ⟨_, HX.out k1 u1⟩
        obtain ⟨B, hB⟩ : ∃ B : UInt8, w.cell? ⟨b, off + k2, none⟩ = some (.int .u8 B.toNat) := ⟨_, HX.out k2 u2⟩
        obtain ⟨v1, v2, v3, v4, v5, v6, v7, w1, w2, e1, e2, e3, e4, e5, e8, e6, e7, b7⟩ := pick_sums A B q k3 (by omega) u3
        go_enter Tryz.func27, Tryz.ntmps27
        go_wp2
        refine gen_world (fun W => W.cell? ⟨rb, 0, none⟩ = some (.slice (some ⟨b, off, none⟩) xs.length cap) ∧ W.cell? ⟨b, off + k1, none⟩ = some (.int .u8 A.toNat) ∧ W.cell? ⟨b, off + k2, none⟩ = some (.int .u8 B.toNat) ∧ Kept [rb] w W ∧ RdAt W rb (N + 1)) ⟨?_, ?_, ?_, HK.out, HR.out⟩ ?_
        · rw [World.cell?_setCell_other _ _ _ _ (by intro e; injection e; omega)]; exact c0
        · rw [World.cell?_setCell_other _ _ _ _ (by intro e; injection e; omega)]; exact hA
        · rw [World.cell?_setCell_other _ _ _ _ (by intro e; injection e; omega)]; exact hB
        clear HX HR HK hA hB c0 c1 f1
        rintro W ⟨c0, cA, cB, hK, hR⟩
        have HK := hid hK
        have HR := hid hR
        clear hK hR
        have l0 : ¬ (xs.length : Int) = 0 := by omega
        have i1 : (k1 : Int) < xs.length := by omega
        have i2 : (k2 : Int) < xs.length := by omega
        have i3 : k1 < cap := by omega
        have i4 : k2 < cap := by omega
        clear u1 u2 u3 hq hl hcp hlt hlt2 hlt3 hL hq1 hN hbr hbr'
        go_quiet (fail)
        clear e1 e2 e3 e4 e5 e6 e7 e8 c0 cA cB w1 w2 i1 i2 i3 i4 l0 t1 t2 t3
        obtain ⟨y, d1, hy⟩ : ∃ y : Nat, (v7 : Int) / 64 = (y : Int) ∧ y < 2 ^ 31 := ⟨v7 / 64, by omega, by omega⟩
        obtain ⟨x, hx, hx0⟩ := xor_nat v7 y (by omega) hy
        have HN := hid hn
        have hwy : wrap64 (y : Int) = (y : Int) := by unfold wrap64; omega
        clear b7 hx0 hn hy
        go_wp2
        go_ret
        have hn1 := HN.out
        have z0 := Int.emod_nonneg (x : Int) (show n ≠ 0 by omega)
        have z1 := Int.emod_lt_of_pos (x : Int) (show 0 < n by omega)
        exact ⟨_, rfl, z0, fun _ => z1, Int.le_trans (Int.le_of_lt z1) hn1, HK.out.drewN _, HR.out.kept ((Kept.refl [] _).drewN _)⟩
end Go.Proofs.YtoleonldkifcbaaGreatDoor
namespace Go.Proofs.YtoleonldkifcbaaGreatDoor
open Go.RowKit

/-- What a draw of a string hands back. -/
def StrRes (rb N : Nat) (w : World) (e : Ending) (w' : World) : Prop := ∃ l : List UInt8, e = .returned (.string (bs l)) ∧ l.length ≤ 40 ∧ Kept [rb] w w' ∧ RdAt w' rb N

/-- A code in memory. -/
def CodeAt (w : World) (v : Value) : Prop :=
  ∃ a cap b off, ∃ xs : List UInt8, v = .slice a xs.length cap ∧ xs.length ≤ cap ∧ (0 < xs.length → a = some ⟨b, off, none⟩ ∧ b < w.heap.size) ∧ ∀ j (h : j < xs.length), w.cell? ⟨b, off + j, none⟩ = some (.int .u8 xs[j].toNat)

theorem of_any (rb N : Nat) (L : List (List UInt8)) (v : Value) (w : World) (h : RdAt w rb N) (hN : N ≤ 1000000) (hv : StrsAt (rb + 1) w v L) (h0 : 0 < L.length) (hL : L.length ≤ 100) :
    Calls Tryz.prog 28 #[.pointer (some ⟨rb, 0, none⟩), v] w fun e w' => ∃ l ∈ L, e = .returned (.string (bs l)) ∧ Kept [rb] w w' ∧ RdAt w' rb (N + 1) := by
  obtain ⟨a, cap, rfl⟩ := hv.form
  have HP := hid (pick_any rb N (L.length : Nat) w h hN (by omega))
  have HV := hid (fun w' (k : Kept [rb] w w') => hv.kept k (by simp))
  have h1' : (1 : Int) ≤ (L.length : Nat) := by omega
  have hcap : L.length ≤ cap := by obtain ⟨a', cap', b, off, he, -, hc, -⟩ := hv; injection he with e1 e2 e3; omega
  clear h hv
  go_enter Tryz.func28, Tryz.ntmps28
  go_wp2_with fail
  refine HP.out.mono ?_
  rintro e w1 ⟨x, rfl, x0, x1, -, hK, hR⟩
  obtain ⟨k, rfl⟩ := Int.eq_ofNat_of_zero_le x0
  have hx := x1 h1'
  have hk : k < L.length := by omega
  obtain ⟨a', cap', b, off, he, -, hc, ha, hcl⟩ := HV.out _ hK
  obtain ⟨rfl, -, -⟩ := ha h0
  injection he with e1 e2 e3
  subst e1 e3
  obtain ⟨hcell, -⟩ := hcl k hk
  have HK := hid hK
  have HR := hid hR
  have hkc : k < cap := by omega
  clear hK hR hcl x1
  go_wp2
  go_ret
  exact ⟨_, List.getElem_mem hk, rfl, HK.out, HR.out⟩

theorem lits_at (w : World) (xs : List (List UInt8)) (lo : Nat) (T : TypeId) (hlo : lo ≤ w.heap.size) (hx : ∀ l ∈ xs, l.length ≤ 40) (hl : xs.length ≤ 100) :
    StrsAt lo (w.alloc (Obj.cells (xs.map (fun l => Value.string (bs l))).toArray T)) (.slice (some ⟨w.heap.size, 0, none⟩) xs.length xs.length) xs := by
  refine ⟨_, _, w.heap.size, 0, rfl, by unfold bigN; omega, Nat.le_refl _, fun _ => ⟨rfl, hlo, by simp⟩, fun j hj => ⟨?_, ?_⟩⟩
  · rw [cell_of_block (new_block w _)]; simp [hj]
  · have := hx _ (List.getElem_mem hj); unfold bigN; omega

theorem lits_of (rb N : Nat) (xs : List (List UInt8)) (hx : ∀ l ∈ xs, l.length ≤ 40) (hl : xs.length ≤ 100) (h0 : 0 < xs.length) (hN : N ≤ 1000000) (w : World) (h : RdAt w rb N) :
    Calls Tryz.prog 28 #[.pointer (some ⟨rb, 0, none⟩), .slice (some ⟨w.heap.size, 0, none⟩) xs.length xs.length] (w.alloc (Obj.cells (xs.map (fun l => Value.string (bs l))).toArray 9)) (StrRes rb (N + 1) w) := by
  have hlt := h.lt
  refine (of_any rb N xs _ _ (h.kept ((Kept.refl [] w).alloc _)) hN (lits_at w xs (rb + 1) _ hlt hx hl) h0 hl).mono ?_
  rintro e w' ⟨l, hm, rfl, hK, hR⟩
  exact ⟨l, rfl, hx l hm, ((Kept.refl [rb] w).alloc _).trans hK, hR⟩
end Go.Proofs.YtoleonldkifcbaaGreatDoor
namespace Go.Proofs.YtoleonldkifcbaaGreatDoor
open Go.RowKit

theorem l6Open_any (v : Value) (w : World) (h : CodeAt w v) :
    Calls Tryz.prog 18 #[v] w fun e w' => e = .returned (.pointer (some ⟨w.heap.size, 0, none⟩)) ∧ Kept [] w w' ∧ RdAt w' w.heap.size 0 := by
  obtain ⟨a, cap, b, off, xs, rfl, hc, ha, hx⟩ := h
  have HX := hid hx
  have HA := hid ha
  have HC := hid hc
  clear hx ha
  by_cases h2 : 2000 < xs.length
  · obtain ⟨rfl, hb⟩ := HA.out (by omega)
    have h2' : (2000 : Int) < xs.length := by omega
    have h3 : 2000 ≤ cap := by omega
    have h3' : (2000 : Int) ≤ cap := by omega
    have HB := hid hb
    clear hb hc
    go_enter Tryz.func18, Tryz.ntmps18
    go_wp2
    go_ret
    refine ⟨rfl, (Kept.refl [] w).alloc _, _, cap, b, off, 0, xs.take 2000, ?_, Nat.le_refl _, by rw [List.length_take]; omega, ?_, fun _ => ⟨rfl, HB.out⟩, fun j hj => ?_⟩
    · rw [new_block]; simp; omega
    · simp; omega
    · simp at hj
      rw [((Kept.refl [] w).alloc _).cell_some (HX.out j (by omega)) (by simp)]
      simp
  · have h2' : ¬ (2000 : Int) < xs.length := by omega
    go_enter Tryz.func18, Tryz.ntmps18
    go_wp2
    go_ret
    refine ⟨rfl, (Kept.refl [] w).alloc _, _, _, b, off, 0, xs, new_block _ _, Nat.le_refl _, by omega, HC.out, HA.out, fun j hj => ?_⟩
    exact ((Kept.refl [] w).alloc _).cell_some (HX.out j hj) (by simp)
end Go.Proofs.YtoleonldkifcbaaGreatDoor
namespace Go.Proofs.YtoleonldkifcbaaGreatDoor
open Go.RowKit

theorem spansX_own' {W : World} {H : Nat} {v : Value} {d : List (Int × Int)} (h : W.ownsRow H 85 2 v d.length (d.flatMap scs)) (hd : d.length ≤ 1000) : SpansX H W.heap.size W v d := by
  rcases Nat.eq_zero_or_pos d.length with h0 | h0
  · obtain ⟨a, cap, rfl⟩ := own_sl h
    have : d.length ≤ cap := by omega
    exact ⟨a, cap, 0, rfl, this, by omega, fun h1 => by omega⟩
  · obtain ⟨g, cap, rfl, hg, hh, hcp, -, hc⟩ := own_open h h0
    obtain ⟨C, hC⟩ := own_block h
    refine ⟨_, cap, g, rfl, hcp, by omega, fun _ => ⟨rfl, hg, hh, hh, C, hC, fun j hj => ?_⟩⟩
    have cell : ∀ i, i < 2 → C[j * 2 + i]? = (scs d[j])[i]? := fun i hi => by
      rw [← cell_of_block hC]
      rcases hc (j * 2 + i) with h1 | h1
      · rw [h1, flat_get scs 2 (fun _ => rfl) d j i hj hi]
      · omega
    exact ⟨cell 0 (by omega), cell 1 (by omega)⟩

theorem own_kept2 {w w' : World} {base : Nat} {e : TypeId} {size : Nat} {g m cap n : Nat} {xs : List Value} (h : w.ownsRow base e size (.slice (some ⟨g, 0, none⟩) m cap) n xs) {bs : List Nat} (k : Kept bs w w') (hb : g ∉ bs) : w'.ownsRow base e size (.slice (some ⟨g, 0, none⟩) m cap) n xs := by
  obtain ⟨h1, h2⟩ := h
  refine ⟨h1, ?_⟩
  rcases h2 with h2 | ⟨g', cap', cur, hv, hg, hh, rest⟩
  · exact .inl h2
  · refine .inr ⟨g', cap', cur, hv, hg, ?_, rest⟩
    injection hv with e1 e2 e3
    injection e1 with e1
    injection e1 with e1
    subst e1
    exact k.same hh hb
/-- What a draw of a number hands back. -/
def NumDRes (rb N : Nat) (w : World) (e : Ending) (w' : World) : Prop := ∃ x : Int, e = .returned (.int .i64 x) ∧ Kept [rb] w w' ∧ RdAt w' rb N

theorem l91Number_any (rb N : Nat) (w : World) (h : RdAt w rb N) (hN : N ≤ 1000000 - 1) :
    Calls Tryz.prog 70 #[.pointer (some ⟨rb, 0, none⟩)] w (NumDRes rb (N + 2) w) := by
  have HP := hid (pick_any rb N 10 w h (by omega) (by omega))
  have HP2 := hid (fun n (hn : n ≤ 1000) W (hW : RdAt W rb (N + 1)) => pick_any rb (N + 1) n W hW (by omega) (by omega))
  have hlt := h.lt
  clear h hN
  go_enter Tryz.func70, Tryz.ntmps70
  go_wp2_with fail
  refine HP.out.mono ?_
  rintro e w1 ⟨x, rfl, h0, h1, -, hK1, hR1⟩
  have HK := hid hK1
  have HR := hid hR1
  have hs1 := hK1.size
  clear h1 hK1 hR1
  by_cases hx : x = 0
  · subst hx
    go_wp2_with fail
    refine (HP2.out 5 (by omega) _ (HR.out.kept ((Kept.refl [] _).alloc _))).mono ?_
    rintro e w2 ⟨y, rfl, y0, y1, -, hK, hR⟩
    have hA := hK.same (new_block w1 _) (by simp; omega)
    have HK2 := hid ((HK.out.alloc _).trans hK)
    have HR2 := hid hR
    have hy := y1 (by omega)
    have a0 := cell_of_block hA 0
    have a1 := cell_of_block hA 1
    have a2 := cell_of_block hA 2
    have a3 := cell_of_block hA 3
    have a4 := cell_of_block hA 4
    simp at a0 a1 a2 a3 a4
    clear hA hK hR y1
    rcases (by omega : y = 0 ∨ y = 1 ∨ y = 2 ∨ y = 3 ∨ y = 4) with rfl | rfl | rfl | rfl | rfl
    all_goals
      go_wp2
      go_ret
      exact ⟨_, rfl, HK2.out, HR2.out⟩
  · have hx' : (x == 0) = false := by rw [beq_eq_false_iff_ne]; exact hx
    go_wp2_with fail
    refine (HP2.out 12 (by omega) _ HR.out).mono ?_
    rintro e w2 ⟨y, rfl, y0, y1, -, hK, hR⟩
    have HK2 := hid (HK.out.trans hK)
    have HR2 := hid hR
    clear hK hR y1
    go_wp2
    go_ret
    exact ⟨_, rfl, HK2.out, HR2.out⟩

/-- What a draw of a set hands back. -/
def SetDRes (rb N : Nat) (w : World) (e : Ending) (w' : World) : Prop := ∃ (v : Value) (d : List (Int × Int)), e = .returned v ∧ d.length ≤ 8 ∧ SpansX w.heap.size w'.heap.size w' v d ∧ Kept [rb] w w' ∧ RdAt w' rb N

set_option maxRecDepth 100000 in
set_option maxHeartbeats 4000000 in
theorem l91Set_any (rb N : Nat) (w : World) (h : RdAt w rb N) (hN : N ≤ 999900) :
    Calls Tryz.prog 49 #[.pointer (some ⟨rb, 0, none⟩)] w (SetDRes rb (N + 60) w) := by
  have hlt := h.lt
  have HP := hid (fun M (hM : M ≤ 60) n W (hW : RdAt W rb (N + M)) (hn : n ≤ 1000) => pick_any rb (N + M) n W hW (by omega) (by omega))
  have HNM := hid (fun M (hM : M ≤ 60) W (hW : RdAt W rb (N + M)) => l91Number_any rb (N + M) W hW (by omega))
  have HR := hid (show RdAt (w.alloc (.cells #[] 85)) rb (N + 0) from h.kept ((Kept.refl [] w).alloc _))
  have HOWN := hid (World.ownsRow_made w #[] 0 (e := 85) (size := 2) (base := w.heap.size) (Nat.le_refl _) (Nat.zero_le _) rfl)
  have HK0 := hid ((Kept.refl [rb] w).alloc (.cells #[] 85))
  clear h hN
  go_enter Tryz.func49, Tryz.ntmps49
  go_wp2_with fail
  refine (HP.out 0 (by omega) 3 _ HR.out (by omega)).mono ?_
  rintro e w1 ⟨x1, rfl, x10, x11, -, hK, hR⟩
  have hx1 := x11 (by omega)
  have HK1 := hid (HK0.out.trans hK)
  have HR1 := hid hR
  have HO1 := hid (own_kept HOWN.out hK (by simpa using hlt))
  clear hK hR x11
  go_wp2_with fail
  refine (HP.out 1 (by omega) 16 _ HR1.out (by omega)).mono ?_
  rintro e w2 ⟨x2, rfl, x20, x21, -, hK, hR⟩
  have HK2 := hid (HK1.out.trans hK)
  have HR2 := hid hR
  have HO2 := hid (own_kept HO1.out hK (by simpa using hlt))
  clear hK hR x21
  by_cases hx2 : x2 = 0
  · subst hx2
    go_wp2_with fail
    refine (HP.out 2 (by omega) 9 _ HR2.out (by omega)).mono ?_
    rintro e w3 ⟨x3, rfl, x30, x31, -, hK, hR⟩
    have hx3 := x31 (by omega)
    obtain ⟨L, rfl⟩ := Int.eq_ofNat_of_zero_le x30
    have hL : L ≤ 8 := by omega
    have HK3 := hid (HK2.out.trans hK)
    have HR3 := hid hR
    have HO3 := hid (own_kept HO2.out hK (by simpa using hlt))
    clear hK hR x31 hx3 x30
    go_wp2
    go_loopg [3, 5] L (fun m v i wr => ∃ (k g cap2 : Nat) (D : List (Int × Int)), m = L - k ∧ k ≤ L ∧ i = .int .i64 k ∧ D.length = k ∧ v = .slice (some ⟨g, 0, none⟩) D.length cap2 ∧
      wr.ownsRow w.heap.size 85 2 (.slice (some ⟨g, 0, none⟩) D.length cap2) D.length (D.flatMap scs) ∧ Kept [rb] w wr ∧ RdAt wr rb (N + 3 + 5 * k))
    case atStart => exact ⟨0, w.heap.size, 0, [], rfl, Nat.zero_le _, rfl, rfl, rfl, by simpa using HO3.out, HK3.out, HR3.out⟩
    case round =>
      obtain ⟨k, g, cap2, D, hm, hk, rfl, hDk, rfl, hown, hKw, hRw⟩ := hrel
      have HM := hid hm
      have HO := hid hown
      have HKw := hid hKw
      have HRw := hid hRw
      have HDK := hid hDk
      have hDb : D.length + 1 ≤ bigN := by unfold bigN; omega
      clear hm hown hKw hRw hDk HR3 HO3 HK3
      by_cases hlt2 : k < L
      · have hlt3 : (k : Int) < L := by omega
        go_wp2_with fail
        refine (HNM.out (3 + 5 * k) (by omega) _ (by rw [← Nat.add_assoc]; exact HRw.out)).mono ?_
        rintro e wa ⟨n0, rfl, hKa, hRa⟩
        have HKa := hid (HKw.out.trans hKa)
        have HRa := hid hRa
        have HOa := hid (own_kept HO.out hKa (by simpa using hlt))
        have HB := hid (new_block wa (Obj.cells #[.int .i64 n0, .int .i64 n0] 85))
        have KB := hid ((Kept.refl [] wa).alloc (Obj.cells #[.int .i64 n0, .int .i64 n0] 85))
        clear hKa hRa HO HRw
        go_wp2_with fail
        refine (HP.out (5 + 5 * k) (by omega) 2 _ ((HRa.out.mono (show _ ≤ N + (5 + 5 * k) by omega)).kept ((Kept.refl [] _).alloc _)) (by omega)).mono ?_
        rintro e wb ⟨y, rfl, y0, y1, -, hKb, hRb⟩
        have hws := HKa.out.size
        have HBb := hid (hKb.same HB.out (by simp; omega))
        have HKb := hid (HKa.out.trans (KB.out.nil.trans hKb))
        have hgw : w.heap.size ≤ g := (HOa.out.lt g rfl).1
        have hgwa : g < wa.heap.size := (HOa.out.lt g rfl).2
        have HOb := hid (own_kept (HOa.out.alloc _) hKb (by simpa using hlt))
        have HRb := hid hRb
        clear hKb hRb y1
        by_cases hy : y = 0
        · subst hy
          go_wp2_with fail
          refine (HNM.out (6 + 5 * k) (by omega) _ (HRb.out.mono (by omega))).mono ?_
          rintro e wc ⟨n1, rfl, hKc, hRc⟩
          have HBc := hid (hKc.same HBb.out (by simp; omega))
          have HKc := hid (HKb.out.trans hKc)
          have HOc := hid (own_kept HOb.out hKc (by simpa using hlt))
          have HRc := hid hRc
          have hb0 := cell_of_block HBc.out 0
          have hb1 := cell_of_block HBc.out 1
          have g1 := frozen_of_block HBc.out 1
          have hbl := lt_of_block HBc.out
          simp at hb0 hb1
          clear hKc hRc
          have KS := (Kept.refl [wa.heap.size] wc).setCell ⟨wa.heap.size, 1, none⟩ (.int .i64 n1) (by simp)
          have HOs := hid (own_kept2 HOc.out KS (by simp; have := hgwa; omega))
          have HRs := hid (HRc.out.keptB KS (fun c hc => by obtain rfl := List.mem_singleton.1 hc; omega))
          have HKs := hid (HKc.out.setCell ⟨wa.heap.size, 1, none⟩ (.int .i64 n1) (by simp; omega))
          have hsb := set_of_block HBc.out (i := 1) (.int .i64 n1)
          have s0 := cell_of_block hsb 0
          have s1 := cell_of_block hsb 1
          simp at s0 s1
          have hslt := lt_of_block hsb
          clear KS hsb
          go_wp2_with (at_builtin; refine append_gen 23 85 _ 2 16 Tryz.underlying23 inf_span rfl (by decide) (by decide) rfl (.tmp 33) (.tmp 35) rfl w.heap.size _ D.length (D.flatMap scs) rfl (HOs.out.alloc _) wc.heap.size 1 1 (scs (n0, n1)) rfl #[.int .i64 n0, .int .i64 n1] (0, 0) (by first | exact new_block _ _ | (have := new_block (wc.setCell ⟨wa.heap.size, 1, none⟩ (.int .i64 n1)) (Obj.cells #[.int .i64 n0, .int .i64 n1] 85); simpa [World.setCell] using this)) rfl rfl (by simp [scs, Value.oneCell']) (by omega) (by omega) (by have := HKc.out.size; simp [World.setCell]; omega) ?_; intro g2 cap2 w3 hown3 hgrow3)
          go_roundg (L - (k + 1))
          case measure => have := HM.out; omega
          case rel =>
            refine ⟨k + 1, g2, cap2, D ++ [(n0, n1)], rfl, by omega, by go_num, by rw [List.length_append, HDK.out]; rfl, by simp, ?_, ?_, ?_⟩
            · have := own_more hown3; simpa using this
            · exact (HKs.out.alloc _).own (HOs.out.alloc _) hgrow3 (Nat.le_refl _)
            · exact ((HRs.out.kept ((Kept.refl [] _).alloc _)).keptB (cs := [g]) ((Kept.refl [g] _).grown hgrow3 (by intro k e _; have e : some g = some k := e; injection e with e; simp [← e])) (fun c hc => by obtain rfl := List.mem_singleton.1 hc; omega)).mono (by omega)
        · have hy' : (y == 0) = false := by rw [beq_eq_false_iff_ne]; exact hy
          have hb0 := cell_of_block HBb.out 0
          have hb1 := cell_of_block HBb.out 1
          have hbl := lt_of_block HBb.out
          simp at hb0 hb1
          go_wp2_with (at_builtin; refine append_gen 23 85 _ 2 16 Tryz.underlying23 inf_span rfl (by decide) (by decide) rfl (.tmp 33) (.tmp 35) rfl w.heap.size _ D.length (D.flatMap scs) rfl (HOb.out.alloc _) wb.heap.size 1 1 (scs (n0, n0)) rfl #[.int .i64 n0, .int .i64 n0] (0, 0) (new_block _ _) rfl rfl (by simp [scs, Value.oneCell']) (by omega) (by omega) (by have := HKb.out.size; simp; omega) ?_; intro g2 cap2 w3 hown3 hgrow3)
          go_roundg (L - (k + 1))
          case measure => have := HM.out; omega
          case rel =>
            refine ⟨k + 1, g2, cap2, D ++ [(n0, n0)], rfl, by omega, by go_num, by rw [List.length_append, HDK.out]; rfl, by simp, ?_, ?_, ?_⟩
            · have := own_more hown3; simpa using this
            · exact (HKb.out.alloc _).own (HOb.out.alloc _) hgrow3 (Nat.le_refl _)
            · exact ((HRb.out.kept ((Kept.refl [] _).alloc _)).keptB (cs := [g]) ((Kept.refl [g] _).grown hgrow3 (by intro k e _; have e : some g = some k := e; injection e with e; simp [← e])) (fun c hc => by obtain rfl := List.mem_singleton.1 hc; omega)).mono (by omega)
      · obtain rfl : k = L := by omega
        go_wp2
        go_ret
        exact ⟨_, D, rfl, by have := HDK.out; omega, spansX_own' HO.out (by have := HDK.out; omega), HKw.out, HRw.out.mono (by omega)⟩
  · have hx2' : (x2 == 0) = false := by rw [beq_eq_false_iff_ne]; exact hx2
    obtain ⟨L, hL1⟩ := Int.eq_ofNat_of_zero_le (show 0 ≤ 1 + x1 by omega)
    have hL : L ≤ 8 := by omega
    have HK3 := hid HK2.out
    have HR3 := hid (HR2.out.mono (show N + 1 + 1 ≤ N + 2 + 1 by omega))
    have HO3 := hid HO2.out
    have hw1 : 1 + x1 ≤ 9223372036854775807 := by omega
    go_wp2
    go_loopg [3, 5] L (fun m v i wr => ∃ (k g cap2 : Nat) (D : List (Int × Int)), m = L - k ∧ k ≤ L ∧ i = .int .i64 k ∧ D.length = k ∧ v = .slice (some ⟨g, 0, none⟩) D.length cap2 ∧
      wr.ownsRow w.heap.size 85 2 (.slice (some ⟨g, 0, none⟩) D.length cap2) D.length (D.flatMap scs) ∧ Kept [rb] w wr ∧ RdAt wr rb (N + 3 + 5 * k))
    case atStart => exact ⟨0, w.heap.size, 0, [], rfl, Nat.zero_le _, rfl, rfl, rfl, by simpa using HO3.out, HK3.out, HR3.out⟩
    case round =>
      obtain ⟨k, g, cap2, D, hm, hk, rfl, hDk, rfl, hown, hKw, hRw⟩ := hrel
      have HM := hid hm
      have HO := hid hown
      have HKw := hid hKw
      have HRw := hid hRw
      have HDK := hid hDk
      have hDb : D.length + 1 ≤ bigN := by unfold bigN; omega
      clear hm hown hKw hRw hDk HR3 HO3 HK3
      by_cases hlt2 : k < L
      · have hlt3 : (k : Int) < L := by omega
        go_wp2_with fail
        refine (HNM.out (3 + 5 * k) (by omega) _ (by rw [← Nat.add_assoc]; exact HRw.out)).mono ?_
        rintro e wa ⟨n0, rfl, hKa, hRa⟩
        have HKa := hid (HKw.out.trans hKa)
        have HRa := hid hRa
        have HOa := hid (own_kept HO.out hKa (by simpa using hlt))
        have HB := hid (new_block wa (Obj.cells #[.int .i64 n0, .int .i64 n0] 85))
        have KB := hid ((Kept.refl [] wa).alloc (Obj.cells #[.int .i64 n0, .int .i64 n0] 85))
        clear hKa hRa HO HRw
        go_wp2_with fail
        refine (HP.out (5 + 5 * k) (by omega) 2 _ ((HRa.out.mono (show _ ≤ N + (5 + 5 * k) by omega)).kept ((Kept.refl [] _).alloc _)) (by omega)).mono ?_
        rintro e wb ⟨y, rfl, y0, y1, -, hKb, hRb⟩
        have hws := HKa.out.size
        have HBb := hid (hKb.same HB.out (by simp; omega))
        have HKb := hid (HKa.out.trans (KB.out.nil.trans hKb))
        have hgw : w.heap.size ≤ g := (HOa.out.lt g rfl).1
        have hgwa : g < wa.heap.size := (HOa.out.lt g rfl).2
        have HOb := hid (own_kept (HOa.out.alloc _) hKb (by simpa using hlt))
        have HRb := hid hRb
        clear hKb hRb y1
        by_cases hy : y = 0
        · subst hy
          go_wp2_with fail
          refine (HNM.out (6 + 5 * k) (by omega) _ (HRb.out.mono (by omega))).mono ?_
          rintro e wc ⟨n1, rfl, hKc, hRc⟩
          have HBc := hid (hKc.same HBb.out (by simp; omega))
          have HKc := hid (HKb.out.trans hKc)
          have HOc := hid (own_kept HOb.out hKc (by simpa using hlt))
          have HRc := hid hRc
          have hb0 := cell_of_block HBc.out 0
          have hb1 := cell_of_block HBc.out 1
          have g1 := frozen_of_block HBc.out 1
          have hbl := lt_of_block HBc.out
          simp at hb0 hb1
          clear hKc hRc
          have KS := (Kept.refl [wa.heap.size] wc).setCell ⟨wa.heap.size, 1, none⟩ (.int .i64 n1) (by simp)
          have HOs := hid (own_kept2 HOc.out KS (by simp; have := hgwa; omega))
          have HRs := hid (HRc.out.keptB KS (fun c hc => by obtain rfl := List.mem_singleton.1 hc; omega))
          have HKs := hid (HKc.out.setCell ⟨wa.heap.size, 1, none⟩ (.int .i64 n1) (by simp; omega))
          have hsb := set_of_block HBc.out (i := 1) (.int .i64 n1)
          have s0 := cell_of_block hsb 0
          have s1 := cell_of_block hsb 1
          simp at s0 s1
          have hslt := lt_of_block hsb
          clear KS hsb
          go_wp2_with (at_builtin; refine append_gen 23 85 _ 2 16 Tryz.underlying23 inf_span rfl (by decide) (by decide) rfl (.tmp 33) (.tmp 35) rfl w.heap.size _ D.length (D.flatMap scs) rfl (HOs.out.alloc _) wc.heap.size 1 1 (scs (n0, n1)) rfl #[.int .i64 n0, .int .i64 n1] (0, 0) (by first | exact new_block _ _ | (have := new_block (wc.setCell ⟨wa.heap.size, 1, none⟩ (.int .i64 n1)) (Obj.cells #[.int .i64 n0, .int .i64 n1] 85); simpa [World.setCell] using this)) rfl rfl (by simp [scs, Value.oneCell']) (by omega) (by omega) (by have := HKc.out.size; simp [World.setCell]; omega) ?_; intro g2 cap2 w3 hown3 hgrow3)
          go_roundg (L - (k + 1))
          case measure => have := HM.out; omega
          case rel =>
            refine ⟨k + 1, g2, cap2, D ++ [(n0, n1)], rfl, by omega, by go_num, by rw [List.length_append, HDK.out]; rfl, by simp, ?_, ?_, ?_⟩
            · have := own_more hown3; simpa using this
            · exact (HKs.out.alloc _).own (HOs.out.alloc _) hgrow3 (Nat.le_refl _)
            · exact ((HRs.out.kept ((Kept.refl [] _).alloc _)).keptB (cs := [g]) ((Kept.refl [g] _).grown hgrow3 (by intro k e _; have e : some g = some k := e; injection e with e; simp [← e])) (fun c hc => by obtain rfl := List.mem_singleton.1 hc; omega)).mono (by omega)
        · have hy' : (y == 0) = false := by rw [beq_eq_false_iff_ne]; exact hy
          have hb0 := cell_of_block HBb.out 0
          have hb1 := cell_of_block HBb.out 1
          have hbl := lt_of_block HBb.out
          simp at hb0 hb1
          go_wp2_with (at_builtin; refine append_gen 23 85 _ 2 16 Tryz.underlying23 inf_span rfl (by decide) (by decide) rfl (.tmp 33) (.tmp 35) rfl w.heap.size _ D.length (D.flatMap scs) rfl (HOb.out.alloc _) wb.heap.size 1 1 (scs (n0, n0)) rfl #[.int .i64 n0, .int .i64 n0] (0, 0) (new_block _ _) rfl rfl (by simp [scs, Value.oneCell']) (by omega) (by omega) (by have := HKb.out.size; simp; omega) ?_; intro g2 cap2 w3 hown3 hgrow3)
          go_roundg (L - (k + 1))
          case measure => have := HM.out; omega
          case rel =>
            refine ⟨k + 1, g2, cap2, D ++ [(n0, n0)], rfl, by omega, by go_num, by rw [List.length_append, HDK.out]; rfl, by simp, ?_, ?_, ?_⟩
            · have := own_more hown3; simpa using this
            · exact (HKb.out.alloc _).own (HOb.out.alloc _) hgrow3 (Nat.le_refl _)
            · exact ((HRb.out.kept ((Kept.refl [] _).alloc _)).keptB (cs := [g]) ((Kept.refl [g] _).grown hgrow3 (by intro k e _; have e : some g = some k := e; injection e with e; simp [← e])) (fun c hc => by obtain rfl := List.mem_singleton.1 hc; omega)).mono (by omega)
      · obtain rfl : k = L := by omega
        go_wp2
        go_ret
        exact ⟨_, D, rfl, by have := HDK.out; omega, spansX_own' HO.out (by have := HDK.out; omega), HKw.out, HRw.out.mono (by omega)⟩
end Go.Proofs.YtoleonldkifcbaaGreatDoor
