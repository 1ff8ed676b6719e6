/- The laws' marks on sets and keys. -/
import Derived.Test.YtoleonldkifcbaaGreatDoorKKc
import Derived.Test.YtoleonldkifcbaaGreatDoorKP
import Derived.Test.YtoleonldkifcbaaGreatDoorKMa
import Derived.Deep.RegionHeld3
namespace Go.Proofs.YtoleonldkifcbaaGreatDoor
open Go.RowKit

set_option maxRecDepth 100000 in
set_option maxHeartbeats 1000000 in
theorem markText_any (k : Nat) (h0 : 0 < k) (hk : k ≤ 1000000) (w : World) : Calls Tryz.prog 53 #[.int .i64 k] w fun e w' => e = .returned (.string (bs (markT k))) ∧ Kept [] w w' := by
  have hk0 : ¬ (k : Int) ≤ 0 := by omega
  have HT : Hid (markT k = 109 :: mtl k k []) := rfl
  go_enter Tryz.func53, Tryz.ntmps53
  go_wp2
  go_loopg [0, 3] k (fun m kv ov W => ∃ (x : Nat) (acc : List UInt8), m = x ∧ kv = .int .i64 x ∧ ov = .string (bs acc) ∧ mtl x x acc = mtl k k [] ∧ acc.length + x ≤ k ∧ Kept [] w W)
  case atStart => exact ⟨k, [], rfl, rfl, rfl, rfl, by simp, Kept.refl _ _⟩
  case round =>
    obtain ⟨x, acc, hm, rfl, rfl, ha, hl, hK⟩ := hrel
    have HA := hid ha
    have HK := hid hK
    have HM := hid hm
    have HL := hid hl
    have s2 : (1 : Int) + acc.length ≤ 9223372036854775807 := by omega
    have s3 : 1 + acc.length ≤ 9223372036854775807 := by omega
    have hx6 : x ≤ 1000000 := by omega
    clear ha hK hm hl
    rcases Nat.eq_zero_or_pos x with rfl | hx
    · go_wp2
      go_ret
      refine ⟨ret_str ?_, HK.out⟩
      have h1 := HA.out
      rw [mtl_zero] at h1
      rw [HT.out, ← h1, ← toList_inj]; simp
    · have hx0 : (0 : Int) < x := by omega
      have hq : (x : Int).tdiv 10 = ((x / 10 : Nat) : Int) := by rw [Int.tdiv_eq_ediv_of_nonneg (by omega)]; rfl
      have hr : (x : Int).tmod 10 = ((x % 10 : Nat) : Int) := by rw [Int.tmod_eq_emod_of_nonneg (by omega)]; rfl
      have hq2 : (x : Int) / 10 = ((x / 10 : Nat) : Int) := rfl
      have hr2 : (x : Int) % 10 = ((x % 10 : Nat) : Int) := rfl
      have HST := hid (mtl_step x acc hx)
      obtain ⟨q, hqq⟩ : ∃ q : Nat, x / 10 = q := ⟨_, rfl⟩
      obtain ⟨r, hrr⟩ : ∃ r : Nat, x % 10 = r := ⟨_, rfl⟩
      have hr9 : r < 10 := by omega
      have HQ : Hid (q + 1 ≤ x ∧ q ≤ 1000000) := by constructor <;> omega
      rw [hqq] at hq hq2 HST
      rw [hrr] at hr hr2 HST
      clear hqq hrr
      have hdw := hid (dig_byte r hr9)
      obtain ⟨d, hd⟩ : ∃ d : UInt8, UInt8.ofNat (48 + r) = d := ⟨_, rfl⟩
      rw [hd] at hdw HST
      clear hd
      have v1 : IntKind.i64.wrap (q : Int) = q := wraps_i64_31 _ (by omega) (by have := HQ.out; omega)
      have v2 : IntKind.i64.wrap (48 + (r : Int)) = 48 + (r : Int) := wraps_i64_31 _ (by omega) (by omega)
      have v3 : IntKind.u8.wrap (48 + (r : Int)) = 48 + (r : Int) := wraps_u8 _ (by omega) (by omega)
      go_wp2
      rw [one_byte _ _ d (by rw [cell_new1, hdw.out])]
      simp only [Result.andThen]
      rw [Oper.upon_value]
      go_wp2
      go_roundg q
      case measure => have := HQ.out; have := HM.out; omega
      case rel =>
        refine ⟨q, d :: acc, rfl, by go_num, ?_, ?_, ?_, HK.out.alloc _⟩
        · congr 1
        · rw [← HST.out, HA.out]
        · have h1 := HL.out; have h2 := HQ.out; simp; omega

/-- So many spans of a row are marked. -/
def MarkAt (W : World) (b n j L : Nat) : Prop := ∃ C, W.heap[b]? = some (.cells C 85 (0, 0)) ∧ 2 * L ≤ C.size ∧ ∀ i, i < j → C[i * 2]? = some (.int .i64 ((n + 2 * i : Nat) : Int)) ∧ C[i * 2 + 1]? = some (.int .i64 ((n + 2 * i + 1 : Nat) : Int))
theorem MarkAt.step {W : World} {b n j L : Nat} (h : MarkAt W b n j L) (hj : j < L) :
    MarkAt ((W.setCell ⟨b, j * 2, none⟩ (.int .i64 ((n + 2 * j : Nat) : Int))).setCell ⟨b, j * 2 + 1, none⟩ (.int .i64 ((n + 2 * j + 1 : Nat) : Int))) b n (j + 1) L := by
  obtain ⟨C, h1, h2, h3⟩ := h
  refine ⟨_, set_of_block (set_of_block h1 _) _, by simpa using h2, fun i hi => ?_⟩
  by_cases hij : i = j
  · subst hij
    constructor
    · rw [Array.getElem?_setIfInBounds, if_neg (by omega), Array.getElem?_setIfInBounds, if_pos rfl, if_pos (by omega)]
    · rw [Array.getElem?_setIfInBounds, if_pos rfl, if_pos (by rw [Array.size_setIfInBounds]; omega)]
  · obtain ⟨g1, g2⟩ := h3 i (by omega)
    constructor
    · rw [Array.getElem?_setIfInBounds, if_neg (by omega), Array.getElem?_setIfInBounds, if_neg (by omega)]; exact g1
    · rw [Array.getElem?_setIfInBounds, if_neg (by omega), Array.getElem?_setIfInBounds, if_neg (by omega)]; exact g2
theorem MarkAt.cells {W : World} {b n j L : Nat} (h : MarkAt W b n j L) (hj : j < L) : (∃ u, W.cell? ⟨b, j * 2, none⟩ = some u) ∧ (∃ u, W.cell? ⟨b, j * 2 + 1, none⟩ = some u) ∧ (∀ o, W.frozen? ⟨b, o, none⟩ = false) ∧ b < W.heap.size := by
  obtain ⟨C, h1, h2, h3⟩ := h
  refine ⟨?_, ?_, fun o => frozen_of_block h1 o, lt_of_block h1⟩
  · rw [cell_of_block h1]; exact ⟨_, Array.getElem?_eq_getElem (by omega)⟩
  · rw [cell_of_block h1]; exact ⟨_, Array.getElem?_eq_getElem (by omega)⟩

/-- What marking a set tells. -/
def MarkRes (lo hi n : Nat) (sv : Value) (d : List (Int × Int)) (w : World) (e : Ending) (w' : World) : Prop :=
  e = .returned (.int .i64 ((n + 2 * d.length : Nat) : Int)) ∧ SpansX lo hi w' sv (markSet n d) ∧ ∃ bs, (∀ b ∈ bs, lo ≤ b ∧ b < hi ∧ 0 < d.length) ∧ Kept bs w w'

set_option maxRecDepth 100000 in
set_option maxHeartbeats 1000000 in
theorem markSpanS_any (lo hi n : Nat) (sv : Value) (d : List (Int × Int)) (w : World) (h : SpansX lo hi w sv d) (hn : n + 2 * d.length ≤ 900000) :
    Calls Tryz.prog 33 #[sv, .int .i64 n] w (MarkRes lo hi n sv d w) := by
  obtain ⟨a, cap, b, rfl, hcp, hl, hb⟩ := h
  have HB := hid hb
  have hl63 : d.length ≤ 9223372036854775807 := by omega
  have HINIT : Hid (0 < d.length → MarkAt w b n 0 d.length) := fun h0 => by
    obtain ⟨-, -, -, -, C, h1, h2⟩ := hb h0
    refine ⟨C, h1, ?_, fun i hi => absurd hi (Nat.not_lt_zero _)⟩
    have := (h2 (d.length - 1) (by omega)).2
    have := (Array.getElem?_eq_some_iff.1 this).1
    omega
  clear hb
  go_enter Tryz.func33, Tryz.ntmps33
  go_wp2
  go_loopg [1, 5] d.length (fun m kv i W => ∃ j t : Nat, m = d.length - j ∧ j ≤ d.length ∧ i = .int .i64 j ∧ kv = .int .i64 t ∧ t = n + 2 * j ∧ (0 < d.length → MarkAt W b n j d.length ∧ Kept [b] w W) ∧ (d.length = 0 → W = w))
  case atStart => exact ⟨0, n, rfl, Nat.zero_le _, rfl, rfl, rfl, fun h0 => ⟨HINIT.out h0, Kept.refl _ _⟩, fun _ => rfl⟩
  case round =>
    obtain ⟨j, t, hm, hj, rfl, rfl, ht, hS, hE⟩ := hrel
    have HM := hid hm
    have HT := hid ht
    have HE := hid hE
    have HS := hid hS
    clear hm ht hS hE
    by_cases hlt : j < d.length
    · obtain ⟨rfl, -, -, -, -⟩ := HB.out (by omega)
      obtain ⟨hS, hK⟩ := HS.out (by omega)
      obtain ⟨⟨u1, c1⟩, ⟨u2, c2⟩, hf, hbl⟩ := hS.cells hlt
      have f1 := hf (j * 2)
      have f2 := hf (j * 2 + 1)
      have HSS := hid hS
      have HK := hid hK
      have i1 : (j : Int) < d.length := by omega
      have i4 : j < cap := by omega
      have ht1 : t ≤ 900000 := by have := HT.out; omega
      clear hf hS hK HS HE
      go_wp2
      go_roundg (d.length - (j + 1))
      case measure => have := HM.out; omega
      case rel =>
        refine ⟨j + 1, t + 2, rfl, by omega, by go_num, by go_num, by have := HT.out; omega, fun _ => ⟨?_, ?_⟩, fun h => by omega⟩
        · have h1 := HSS.out.step hlt
          rw [← HT.out] at h1
          simpa using h1
        · repeat' with_reducible first | exact HK.out | refine Kept.setCell ?_ _ _ (by simp)
    · obtain rfl : j = d.length := by omega
      go_wp2
      go_ret
      refine ⟨by rw [HT.out]; rfl, ?_⟩
      by_cases h0 : 0 < d.length
      · obtain ⟨⟨C, g1, g2, g3⟩, hK⟩ := HS.out h0
        obtain ⟨rfl, hlo, hhi, -, -⟩ := HB.out h0
        refine ⟨⟨_, cap, b, by rw [markSet_len], by rw [markSet_len]; exact hcp, by rw [markSet_len]; exact hl, fun _ => ⟨rfl, hlo, hhi, lt_of_block g1, C, g1, fun i hi => ?_⟩⟩, [b], fun c hc => by obtain rfl := List.mem_singleton.1 hc; exact ⟨hlo, hhi, h0⟩, hK⟩
        rw [markSet_get]
        rw [markSet_len] at hi
        exact g3 i hi
      · have hd : d = [] := List.eq_nil_of_length_eq_zero (by omega)
        have hw := HE.out (by omega)
        subst hd
        subst hw
        exact ⟨⟨a, cap, b, rfl, hcp, hl, fun h => absurd h (by simp [markSet])⟩, [], by simp, Kept.refl _ _⟩
end Go.Proofs.YtoleonldkifcbaaGreatDoor
namespace Go.Proofs.YtoleonldkifcbaaGreatDoor
open Go.RowKit

theorem KeysX.low {lo lo' hi : Nat} {w : World} {b off : Nat} {ks : List Ky} (h : KeysX lo hi w b off ks) (hl : lo' ≤ lo) : KeysX lo' hi w b off ks := by
  cases ks with
  | nil => unfold KeysX; trivial
  | cons k ks =>
    unfold KeysX at h ⊢
    obtain ⟨x, y, h1, h2, h3, h4, h5, h6⟩ := h
    exact ⟨x, y, by omega, h2, h3, h4, h5, h6⟩
theorem KeysX.turn {hi : Nat} {w w' : World} {bs : List Nat} (K : Kept bs w w') (b : Nat) (ks : List Ky) : ∀ (lo off : Nat), (∀ c ∈ bs, c = b ∨ c < lo ∨ hi ≤ c) → KeysX lo hi w b off ks →
    (∀ o, off ≤ o → o < off + 5 * ks.length → w'.cell? ⟨b, o, none⟩ = w.cell? ⟨b, o, none⟩) → KeysX lo hi w' b off ks := by
  induction ks with
  | nil => intro lo off _ _ _; unfold KeysX; trivial
  | cons k ks ih =>
    intro lo off hb h hc
    unfold KeysX at h ⊢
    obtain ⟨x, y, hx, hxy, hy, hbx, ⟨sv, kv, c0, c1, c2, c3, c4, hk⟩, hr⟩ := h
    simp only [List.length_cons] at hc
    refine ⟨x, y, hx, hxy, hy, hbx, ⟨sv, kv, ?_, ?_, ?_, ?_, ?_, ?_⟩, ih y (off + 5) (fun c hc => by rcases hb c hc with h | h | h <;> omega) hr (fun o h1 h2 => hc o (by omega) (by omega))⟩
    · rw [hc off (by omega) (by omega)]; exact c0
    · rw [hc (off + 1) (by omega) (by omega)]; exact c1
    · rw [hc (off + 2) (by omega) (by omega)]; exact c2
    · rw [hc (off + 3) (by omega) (by omega)]; exact c3
    · rw [hc (off + 4) (by omega) (by omega)]; exact c4
    · exact KeyX.kept K (fun c hc => by rcases hb c hc with rfl | h | h <;> omega) k sv kv hk
theorem KeysX.join {hi : Nat} {w : World} {b : Nat} (ls cs : List Ky) : ∀ (lo x off : Nat), lo ≤ x → x ≤ hi → KeysX lo x w b off ls → KeysX x hi w b (off + 5 * ls.length) cs → KeysX lo hi w b off (ls ++ cs) := by
  induction ls with
  | nil => intro lo x off h1 h2 _ h; simpa using h.low h1
  | cons k ls ih =>
    intro lo x off h1 h2 h h'
    simp only [List.cons_append]
    unfold KeysX at h ⊢
    obtain ⟨p, q, g1, g2, g3, g4, g5, g6⟩ := h
    exact ⟨p, q, g1, g2, by omega, g4, g5, ih q x (off + 5) g3 h2 g6 (by rw [show off + 5 + 5 * ls.length = off + 5 * (k :: ls).length by simp; omega]; exact h')⟩

/-- A row of keys in memory of its own. -/
def KeysRow (lo hi : Nat) (w : World) (kv : Value) (ks : List Ky) : Prop :=
  ∃ a cap b, kv = .slice a ks.length cap ∧ ks.length ≤ cap ∧ ks.length ≤ 2 ∧ (0 < ks.length → a = some ⟨b, 0, none⟩ ∧ lo ≤ b ∧ b < hi ∧ b < w.heap.size ∧ ∃ C, w.heap[b]? = some (.cells C 26 (0, 0))) ∧ KeysX lo hi w b 0 ks
theorem KeysRow.form {lo hi : Nat} {w : World} {kv : Value} {ks : List Ky} (h : KeysRow lo hi w kv ks) : ∃ a cap, kv = .slice a ks.length cap := by
  obtain ⟨a, cap, b, h1, -⟩ := h; exact ⟨a, cap, h1⟩
theorem SpansX.form {lo hi : Nat} {w : World} {sv : Value} {d : List (Int × Int)} (h : SpansX lo hi w sv d) : ∃ a cap, sv = .slice a d.length cap := by
  obtain ⟨a, cap, b, h1, -⟩ := h; exact ⟨a, cap, h1⟩
theorem KeysRow.kept {lo hi : Nat} {w w' : World} {kv : Value} {ks : List Ky} {bs : List Nat} (h : KeysRow lo hi w kv ks) (K : Kept bs w w') (hb : ∀ c ∈ bs, 0 < ks.length → c < lo ∨ hi ≤ c) : KeysRow lo hi w' kv ks := by
  obtain ⟨a, cap, b, h1, h2, h3, h4, h5⟩ := h
  refine ⟨a, cap, b, h1, h2, h3, fun h0 => ?_, ?_⟩
  · obtain ⟨g1, g2, g3, g4, C, g5⟩ := h4 h0
    exact ⟨g1, g2, g3, Nat.lt_of_lt_of_le g4 K.size, C, K.same g5 (fun e => by rcases hb b e h0 with h | h <;> omega)⟩
  · by_cases h0 : 0 < ks.length
    · obtain ⟨g1, g2, g3, -⟩ := h4 h0
      exact KeysX.kept K (fun c hc => hb c hc h0) b 0 ks h5 (fun e => by rcases hb b e h0 with h | h <;> omega)
    · have : ks = [] := List.eq_nil_of_length_eq_zero (by omega)
      subst this; unfold KeysX; trivial
theorem SpansX.kept' {lo hi : Nat} {w w' : World} {bs : List Nat} {sv : Value} {d : List (Int × Int)} (h : SpansX lo hi w sv d) (K : Kept bs w w') (hb : ∀ c ∈ bs, 0 < d.length → c < lo ∨ hi ≤ c) : SpansX lo hi w' sv d := by
  by_cases h0 : 0 < d.length
  · exact h.kept K (fun c hc => hb c hc h0)
  · obtain ⟨a, cap, b, h1, h2, h3, h4⟩ := h
    exact ⟨a, cap, b, h1, h2, h3, fun h => absurd h h0⟩
theorem keyX_parts {lo hi : Nat} {w : World} {k : Ky} {sv kv : Value} : KeyX lo hi w k sv kv ↔ k.text.length ≤ bigN ∧ SpansX lo hi w sv k.set ∧ (0 < k.keys.length → k.set.length = 0) ∧ KeysRow lo hi w kv k.keys := by
  cases k
  unfold KeyX KeysRow
  exact Iff.rfl

/-- What marking a row of keys tells. -/
def MarksRes (lo hi n : Nat) (kv : Value) (ks : List Ky) (w : World) (e : Ending) (w' : World) : Prop :=
  e = .returned (.int .i64 ((n + cntL ks : Nat) : Int)) ∧ KeysRow lo hi w' kv (markL n ks) ∧ ∃ bs, (∀ b ∈ bs, lo ≤ b ∧ b < hi ∧ 0 < ks.length) ∧ Kept bs w w'
/-- Keys with so few nodes are marked. -/
def MarkGo (N : Nat) : Prop := ∀ (ks : List Ky) (kv : Value) (lo hi n : Nat) (w : World), nodesL ks < N → 0 < n → n + cntL ks ≤ 900000 → KeysRow lo hi w kv ks →
  Calls Tryz.prog 34 #[kv, .int .i64 n] w (MarksRes lo hi n kv ks w)

/-- So many keys of a row are marked. -/
def MarkSt (lo hi : Nat) (w : World) (b n : Nat) (ks : List Ky) (j : Nat) (W : World) : Prop :=
  ∃ x bs, lo ≤ x ∧ x ≤ hi ∧ KeysX lo x W b 0 (markL n (ks.take j)) ∧ KeysX x hi W b (j * 5) (ks.drop j) ∧ (∃ C, W.heap[b]? = some (.cells C 26 (0, 0))) ∧ (∀ c ∈ bs, lo ≤ c ∧ c < hi) ∧ Kept bs w W

/-- One key more. -/
theorem mark_round {lo hi : Nat} {w W w1 w2 w3 : World} {b n j x x' y t : Nat} {ks : List Ky} {k : Ky} {bs bs1 bs2 : List Nat} {sv kv : Value} (hj : j < ks.length) (hk : ks[j] = k) (hb : lo ≤ b ∧ b < hi) (ht : t = n + cntL (ks.take j)) (ht2 : t ≤ 900000)
    (h1 : lo ≤ x) (h2 : x ≤ x') (h3 : x' ≤ y) (h4 : y ≤ hi) (hbx : b < x' ∨ y ≤ b) (hD : KeysX lo x W b 0 (markL n (ks.take j))) (hR : KeysX y hi W b (j * 5 + 5) (ks.drop (j + 1)))
    (hC : ∃ C, W.heap[b]? = some (.cells C 26 (0, 0))) (hbs : ∀ c ∈ bs, lo ≤ c ∧ c < hi) (hK : Kept bs w W)
    (c0 : ∃ u, W.cell? ⟨b, j * 5, none⟩ = some u) (c1 : ∃ u, W.cell? ⟨b, j * 5 + 1, none⟩ = some u) (c2 : ∃ u, W.cell? ⟨b, j * 5 + 2, none⟩ = some u) (c3 : W.cell? ⟨b, j * 5 + 3, none⟩ = some sv) (c4 : W.cell? ⟨b, j * 5 + 4, none⟩ = some kv)
    (K1 : Kept [] ((W.setCell ⟨b, j * 5, none⟩ (.int .i64 (t : Nat))).setCell ⟨b, j * 5 + 1, none⟩ (.int .i64 ((t : Int) + 1))) w1)
    (K2 : Kept bs1 (w1.setCell ⟨b, j * 5 + 2, none⟩ (.string (Go.Proofs.YtoleonldkifcbaaGreatDoor.bs (markT (t + 2))))) w2) (hS : SpansX x' y w2 sv (markSet (t + 3) k.set)) (hb1 : ∀ c ∈ bs1, x' ≤ c ∧ c < y ∧ 0 < k.set.length)
    (K3 : Kept bs2 w2 w3) (hY : KeysRow x' y w3 kv (markL (t + 3 + 2 * k.set.length) k.keys)) (hb2 : ∀ c ∈ bs2, x' ≤ c ∧ c < y ∧ 0 < k.keys.length) (hex : 0 < k.keys.length → k.set.length = 0) :
    MarkSt lo hi w b n ks (j + 1) w3 := by
  obtain ⟨C, hC⟩ := hC
  have hCW := lt_of_block hC
  have hBB1 := K1.same (set_of_block (set_of_block hC _) _) (by simp)
  have hnb1 : b ∉ bs1 := fun e => by have := hb1 b e; omega
  have hnb2 : b ∉ bs2 := fun e => by have := hb2 b e; omega
  have hB3 := K3.same (K2.same (set_of_block hBB1 (i := j * 5 + 2) _) hnb1) hnb2
  have hBW := lt_of_block hBB1
  obtain ⟨u0, c0⟩ := c0
  obtain ⟨u1, c1⟩ := c1
  obtain ⟨u2, c2⟩ := c2
  have sz0 : j * 5 < C.size := by rw [cell_of_block hC] at c0; exact (Array.getElem?_eq_some_iff.1 c0).1
  have sz1 : j * 5 + 1 < C.size := by rw [cell_of_block hC] at c1; exact (Array.getElem?_eq_some_iff.1 c1).1
  have sz2 : j * 5 + 2 < C.size := by rw [cell_of_block hC] at c2; exact (Array.getElem?_eq_some_iff.1 c2).1
  have cell : ∀ o, w3.cell? ⟨b, o, none⟩ = if o = j * 5 then some (.int .i64 (t : Nat)) else if o = j * 5 + 1 then some (.int .i64 ((t : Int) + 1)) else if o = j * 5 + 2 then some (.string (Go.Proofs.YtoleonldkifcbaaGreatDoor.bs (markT (t + 2)))) else W.cell? ⟨b, o, none⟩ := fun o => by
    rw [cell_of_block hB3, cell_of_block hC]
    simp only [Array.getElem?_setIfInBounds, Array.size_setIfInBounds]
    by_cases e0 : o = j * 5
    · subst e0
      simp [sz0]
    · by_cases e1 : o = j * 5 + 1
      · subst e1
        simp [sz1]
      · by_cases e2 : o = j * 5 + 2
        · subst e2
          simp [sz2]
        · simp [e0, e1, e2, show ¬ j * 5 = o by omega, show ¬ j * 5 + 1 = o by omega, show ¬ j * 5 + 2 = o by omega]
  have KA : Kept (b :: (bs1 ++ bs2)) W w3 := by
    refine Kept.trans' (bs := [b]) (b := w1) ?_ (Kept.trans' (cs := bs1 ++ bs2) (ds := b :: (bs1 ++ bs2)) ((Kept.refl [b] w1).setCell ⟨b, j * 5 + 2, none⟩ (.string (Go.Proofs.YtoleonldkifcbaaGreatDoor.bs (markT (t + 2)))) (by simp)) (Kept.trans' (ds := bs1 ++ bs2) K2 K3 (fun c h _ => by simp [h]) (fun c h _ => by simp [h])) (fun c h _ => by simp at h; simp [h]) (fun c h _ => by simp at h ⊢; exact .inr h)) (fun c h _ => by simp at h; simp [h]) (fun c h _ => h)
    exact (((Kept.refl [b] W).setCell _ _ (by simp)).setCell _ _ (by simp)).trans K1.nil
  have hpr : ∀ c, c ∈ b :: (bs1 ++ bs2) → c = b ∨ (x' ≤ c ∧ c < y) := fun c hc => by
    simp at hc
    rcases hc with h | h | h
    · exact .inl h
    · have := hb1 c h; exact .inr ⟨this.1, this.2.1⟩
    · have := hb2 c h; exact .inr ⟨this.1, this.2.1⟩
  have hlt : (ks.take j).length = j := by rw [List.length_take]; omega
  have htk : ks.take (j + 1) = ks.take j ++ [k] := by rw [List.take_succ_eq_append_getElem hj, hk]
  have hD3 : KeysX lo x w3 b 0 (markL n (ks.take j)) := KeysX.turn KA b _ lo 0 (fun c hc => by rcases hpr c hc with h | h <;> omega) hD (fun o _ h => by
    rw [markL_len, hlt] at h
    rw [cell, if_neg (by omega), if_neg (by omega), if_neg (by omega)])
  have hR3 : KeysX y hi w3 b (j * 5 + 5) (ks.drop (j + 1)) := KeysX.turn KA b _ y _ (fun c hc => by rcases hpr c hc with h | h <;> omega) hR (fun o h _ => by
    rw [cell, if_neg (by omega), if_neg (by omega), if_neg (by omega)])
  have hX3 : KeyX x' y w3 (markK t k) sv kv := by
    rw [keyX_parts]
    cases k
    rename_i ka kb kc kd kks
    unfold markK
    simp only [Ky.text, Ky.set, Ky.keys] at hS hY hex hb2 hb1 ⊢
    refine ⟨Nat.le_trans (markT_len _) (by unfold bigN; omega), hS.kept' K3 (fun c hc h0 => ?_), fun h0 => ?_, hY⟩
    · rw [markSet_len] at h0
      have := hex (hb2 c hc).2.2; omega
    · rw [markL_len] at h0
      rw [markSet_len]; exact hex h0
  have hkind : (markK t k).kind = (t : Int) ∧ (markK t k).flag = (t : Int) + 1 ∧ (markK t k).text = markT (t + 2) := by
    cases k; unfold markK; simp [Ky.kind, Ky.flag, Ky.text]
  refine ⟨y, b :: (bs ++ (bs1 ++ bs2)), by omega, h4, ?_, by rw [show (j + 1) * 5 = j * 5 + 5 by omega]; exact hR3, ⟨_, hB3⟩, fun c hc => ?_, ?_⟩
  · rw [htk, markL_append, ← ht]
    refine KeysX.join _ _ lo x 0 h1 (by omega) hD3 ?_
    rw [markL_len, hlt, show 0 + 5 * j = j * 5 by omega]
    unfold markL markL KeysX KeysX
    refine ⟨x', y, h2, h3, Nat.le_refl _, hbx, ⟨sv, kv, ?_, ?_, ?_, ?_, ?_, hX3⟩, trivial⟩
    · rw [cell, if_pos rfl, hkind.1]
    · rw [cell, if_neg (by omega), if_pos rfl, hkind.2.1]
    · rw [cell, if_neg (by omega), if_neg (by omega), if_pos rfl, hkind.2.2]
    · rw [cell, if_neg (by omega), if_neg (by omega), if_neg (by omega)]; exact c3
    · rw [cell, if_neg (by omega), if_neg (by omega), if_neg (by omega)]; exact c4
  · simp at hc
    rcases hc with rfl | h | h | h
    · exact hb
    · exact hbs c h
    · have := hb1 c h; omega
    · have := hb2 c h; omega
  · exact hK.trans' KA (fun c h _ => by simp [h]) (fun c h _ => by simp at h ⊢; rcases h with h | h | h <;> simp [h])
end Go.Proofs.YtoleonldkifcbaaGreatDoor
namespace Go.Proofs.YtoleonldkifcbaaGreatDoor
open Go.RowKit

theorem cntL_get (ks : List Ky) (j : Nat) (h : j < ks.length) : cntL (ks.take (j + 1)) = cntL (ks.take j) + cntK ks[j] := by
  rw [List.take_succ_eq_append_getElem h, cntL_append]; simp [cntL]
theorem cntL_take_le (ks : List Ky) (j : Nat) : cntL (ks.take j) ≤ cntL ks := by
  have := cntL_append (ks.take j) (ks.drop j)
  rw [List.take_append_drop] at this; omega
theorem cntK_parts (k : Ky) : cntK k = 3 + 2 * k.set.length + cntL k.keys := by cases k; unfold cntK; rfl
theorem nodesK_parts (k : Ky) : nodesK k = 1 + nodesL k.keys := by cases k; unfold nodesK; rfl
theorem nodesL_get {k : Ky} {ks : List Ky} (h : k ∈ ks) : nodesK k ≤ nodesL ks := by
  induction ks with
  | nil => cases h
  | cons x ks ih =>
    unfold nodesL
    rcases List.mem_cons.1 h with rfl | h
    · omega
    · have := ih h; omega

set_option maxRecDepth 100000 in
set_option maxHeartbeats 8000000 in
theorem mark_step (N : Nat) (ih : MarkGo N) : MarkGo (N + 1) := by
  intro ks kv lo hi n w hN hn0 hn h
  obtain ⟨a, cap, b, rfl, hcp, hl, hb, hks⟩ := h
  have HB := hid hb
  have hl63 : ks.length ≤ 9223372036854775807 := by omega
  have HIH := hid ih
  have HIN : Hid (∀ x ∈ ks, nodesL x.keys < N) := fun x hx => by have := nodesL_get hx; have := nodesK_parts x; omega
  have HN := hid hn
  have HINIT : Hid (0 < ks.length → MarkSt lo hi w b n ks 0 w) := fun h0 => by
    obtain ⟨-, h1, h2, h3, C, hC⟩ := hb h0
    exact ⟨lo, [], Nat.le_refl _, by omega, by simp [markL, KeysX], by simpa using hks, ⟨C, hC⟩, by simp, Kept.refl _ _⟩
  clear hb hks ih hN hn
  go_enter Tryz.func34, Tryz.ntmps34
  go_wp2
  go_loopg [1, 5] ks.length (fun m kv i W => ∃ j t : Nat, m = ks.length - j ∧ j ≤ ks.length ∧ i = .int .i64 j ∧ kv = .int .i64 t ∧ t = n + cntL (ks.take j) ∧ (0 < ks.length → MarkSt lo hi w b n ks j W) ∧ (ks.length = 0 → W = w))
  case atStart => exact ⟨0, n, rfl, Nat.zero_le _, rfl, rfl, by simp [cntL], HINIT.out, fun _ => rfl⟩
  case round =>
    obtain ⟨j, t, hm, hj, rfl, rfl, ht, hS, hE⟩ := hrel
    have HM := hid hm
    have HT := hid ht
    have HE := hid hE
    have HS := hid hS
    clear hm ht hS hE
    by_cases hlt : j < ks.length
    · obtain ⟨rfl, hblo, hbhi, -, -⟩ := HB.out (by omega)
      obtain ⟨x, bs, h1, h2, hD, hR, hC, hbs, hK⟩ := HS.out (by omega)
      rw [List.drop_eq_getElem_cons hlt] at hR
      obtain ⟨k, hk⟩ : ∃ k, ks[j] = k := ⟨_, rfl⟩
      have HIK := hid (HIN.out ks[j] (List.getElem_mem _))
      have hcn := cntL_get ks j hlt
      have hcl := cntL_take_le ks (j + 1)
      rw [hk] at hR HIK hcn
      unfold KeysX at hR
      obtain ⟨x', y, g2, g3, g4, hbx, ⟨sv, kv, c0, c1, c2, c3, c4, hX⟩, hR⟩ := hR
      rw [keyX_parts] at hX
      obtain ⟨-, hsp, hex, hrow⟩ := hX
      have hck := cntK_parts k
      have ht2 : t + 3 + 2 * k.set.length + cntL k.keys ≤ 900000 := by have := HN.out; have := HT.out; omega
      have HCNT : Hid (t + 3 + 2 * k.set.length + cntL k.keys = n + cntL (ks.take (j + 1))) := by show _ = _; have := HT.out; omega
      have ht4 : t ≤ 900000 := by omega
      obtain ⟨C, hC⟩ := hC
      have hbl := lt_of_block hC
      have f0 := frozen_of_block hC (j * 5)
      have f1 := frozen_of_block hC (j * 5 + 1)
      have hB1 : ∀ v u, ((wr.setCell ⟨b, j * 5, none⟩ v).setCell ⟨b, j * 5 + 1, none⟩ u).heap[b]? = some (.cells ((C.setIfInBounds (j * 5) v).setIfInBounds (j * 5 + 1) u) 26 (0, 0)) := fun v u => set_of_block (set_of_block hC _) _
      have HMT := hid (fun W => show Calls Tryz.prog 53 #[.int .i64 ((t : Int) + 1 + 1)] W (fun e w' => e = .returned (.string (Go.Proofs.YtoleonldkifcbaaGreatDoor.bs (markT (t + 2)))) ∧ Kept [] W w') from by
        rw [show ((t : Int) + 1 + 1) = ((t + 2 : Nat) : Int) by omega]; exact markText_any (t + 2) (by omega) (by omega) W)
      have HROUND := hid (fun w1 w2 w3 bs1 bs2 K1 K2 hS hb1 K3 hY hb2 => mark_round (w := w) (W := wr) (w1 := w1) (w2 := w2) (w3 := w3) (n := n) (bs1 := bs1) (bs2 := bs2) hlt hk ⟨hblo, hbhi⟩ HT.out ht4 h1 g2 g3 g4 hbx hD hR ⟨C, hC⟩ hbs hK ⟨_, c0⟩ ⟨_, c1⟩ ⟨_, c2⟩ c3 c4 K1 K2 hS hb1 K3 hY hb2 hex)
      have hnb3 : t + 3 + 2 * k.set.length ≤ 900000 := by omega
      have HSP := hid (fun w2 (K1 : Kept [b] wr w2) => show Calls Tryz.prog 33 #[sv, .int .i64 ((t : Int) + 1 + 1 + 1)] w2 (MarkRes x' y (t + 3) sv k.set w2) from by
        rw [show ((t : Int) + 1 + 1 + 1) = ((t + 3 : Nat) : Int) by omega]
        exact markSpanS_any x' y (t + 3) sv k.set w2 (hsp.kept K1 (fun c hc => by have := List.mem_singleton.1 hc; omega)) hnb3)
      have HKR := hid (fun w2 w3 bs1 (K1 : Kept [b] wr w2) (K2 : Kept bs1 w2 w3) (hb1 : ∀ c ∈ bs1, x' ≤ c ∧ c < y ∧ 0 < k.set.length) => show Calls Tryz.prog 34 #[kv, .int .i64 ((t + 3 + 2 * k.set.length : Nat) : Int)] w3 (MarksRes x' y (t + 3 + 2 * k.set.length) kv k.keys w3) from
        HIH.out k.keys kv x' y _ w3 HIK.out (by omega) ht2 ((hrow.kept K1 (fun c hc _ => by have := List.mem_singleton.1 hc; omega)).kept K2 (fun c hc h0 => by have := hex h0; have := (hb1 c hc).2.2; omega)))
      have HNB := hid (fun (bs1 : List Nat) (hb1 : ∀ c ∈ bs1, x' ≤ c ∧ c < y ∧ 0 < k.set.length) => show b ∉ bs1 from fun e => by have := hb1 b e; omega)
      clear hD hR hrow hsp hC hbs hK h1 h2 hck hcl hcn HS
      go_wp2_with fail
      refine (HMT.out _).mono ?_
      rintro e w1 ⟨rfl, hK1⟩
      have hBw1 := hK1.same (hB1 _ _) (by simp)
      have d2 := hK1.cell_some (p := ⟨b, j * 5 + 2, none⟩) (v := .string (Go.Proofs.YtoleonldkifcbaaGreatDoor.bs k.text)) (by simpa [World.cell?_setCell_other] using c2) (by simp)
      have d3 := hK1.cell_some (p := ⟨b, j * 5 + 3, none⟩) (v := sv) (by simpa [World.cell?_setCell_other] using c3) (by simp)
      have d4 := hK1.cell_some (p := ⟨b, j * 5 + 4, none⟩) (v := kv) (by simpa [World.cell?_setCell_other] using c4) (by simp)
      have e2 := frozen_of_block hBw1 (j * 5 + 2)
      have hbl1 := lt_of_block hBw1
      have HKB := hid ((((Kept.refl [b] wr).setCell ⟨b, j * 5, none⟩ (.int .i64 (t : Nat)) (by simp)).setCell ⟨b, j * 5 + 1, none⟩ (.int .i64 ((t : Int) + 1)) (by simp)).trans hK1.nil)
      have HK1 := hid hK1
      clear hK1 hBw1 hB1 c0 c1 c2 c3 c4 f0 f1 hbl
      go_wp2_with fail
      refine (HSP.out _ (HKB.out.setCell _ _ (by simp))).mono ?_
      rintro e w2 ⟨rfl, hS2, bs1, hb1, hK2⟩
      have hbn := HNB.out bs1 hb1
      have d4 : w2.cell? ⟨b, j * 5 + 4, none⟩ = some kv := hK2.cell_some (p := ⟨b, j * 5 + 4, none⟩) (v := kv) (by simpa [World.cell?_setCell_other] using d4) hbn
      have HC2 := hid (HKR.out _ w2 bs1 (HKB.out.setCell ⟨b, j * 5 + 2, none⟩ (.string (Go.Proofs.YtoleonldkifcbaaGreatDoor.bs (markT (t + 2)))) (by simp)) hK2 hb1)
      have HR2 := hid (fun w3 bs2 K3 hY hb2 => HROUND.out w1 w2 w3 bs1 bs2 HK1.out hK2 hS2 hb1 K3 hY hb2)
      clear hS2 hb1 hK2 d2 d3 e2 hbl1 hbn
      go_wp2_with fail
      refine HC2.out.mono ?_
      rintro e w3 ⟨rfl, hY, bs2, hb2, hK3⟩
      have HST := hid (HR2.out w3 bs2 hK3 hY hb2)
      clear hY hb2 hK3 d4
      go_wp2
      go_roundg (ks.length - (j + 1))
      case measure => have := HM.out; omega
      case rel =>
        exact ⟨j + 1, t + 3 + 2 * k.set.length + cntL k.keys, rfl, by omega, by go_num, by go_num, HCNT.out, fun _ => HST.out, fun h => by omega⟩
    · obtain rfl : j = ks.length := by omega
      have HTT : Hid (t = n + cntL ks) := by show _ = _; rw [HT.out, List.take_length]
      go_wp2
      go_ret
      refine ⟨by rw [HTT.out]; rfl, ?_⟩
      by_cases h0 : 0 < ks.length
      · obtain ⟨x, bs, h1, h2, hD, -, ⟨C, hC⟩, hbs, hK⟩ := HS.out h0
        obtain ⟨rfl, hlo, hhi, -, -⟩ := HB.out h0
        rw [List.take_length] at hD
        refine ⟨⟨_, cap, b, by rw [markL_len], by rw [markL_len]; exact hcp, by rw [markL_len]; exact hl, fun _ => ⟨rfl, hlo, hhi, lt_of_block hC, C, hC⟩, ?_⟩, bs, fun c hc => ⟨(hbs c hc).1, (hbs c hc).2, h0⟩, hK⟩
        have := KeysX.join (markL n ks) [] lo x 0 h1 h2 hD (by unfold KeysX; trivial)
        simpa using this
      · have hd : ks = [] := List.eq_nil_of_length_eq_zero (by omega)
        have hw := HE.out (by omega)
        subst hd
        subst hw
        exact ⟨⟨a, cap, b, rfl, hcp, hl, fun h => absurd h (by simp [markL]), by unfold markL KeysX; trivial⟩, [], by simp, Kept.refl _ _⟩
theorem mark_go : ∀ N, MarkGo N
  | 0 => fun _ _ _ _ _ _ h => absurd h (Nat.not_lt_zero _)
  | N + 1 => mark_step N (mark_go N)

/-- A key whose memory is marked, from a number on. -/
def markTop (n : Nat) (k : Ky) : Ky := .mk k.kind k.flag k.text (markSet n k.set) (markL (n + 2 * k.set.length) k.keys)

set_option maxRecDepth 100000 in
set_option maxHeartbeats 1000000 in
theorem markKey_any (lo hi n : Nat) (k : Ky) (sv kv : Value) (w : World) (h : KeyX lo hi w k sv kv) (hhi : hi ≤ w.heap.size) (hn0 : 0 < n) (hn : n + 2 * k.set.length + cntL k.keys ≤ 900000) :
    Calls Tryz.prog 15 #[.agg #[.int .i64 k.kind, .int .i64 k.flag, .string (bs k.text), sv, kv], .int .i64 n] w fun e w' => e = .returned (.int .i64 ((n + 2 * k.set.length + cntL k.keys : Nat) : Int)) ∧ KeyX lo hi w' (markTop n k) sv kv ∧
      ∃ bs, (∀ b ∈ bs, lo ≤ b ∧ b < hi) ∧ Kept bs w w' := by
  rw [keyX_parts] at h
  obtain ⟨htx, hsp, hex, hrow⟩ := h
  have HEX := hid hex
  have HTX := hid htx
  obtain ⟨sa, scap, rfl⟩ := hsp.form
  obtain ⟨ka, kcap, rfl⟩ := hrow.form
  have HZ := hid (new_block w (Obj.cells #[.int .i64 k.kind, .int .i64 k.flag, .string (bs k.text), .slice sa k.set.length scap, .slice ka k.keys.length kcap] 26))
  have KA := hid ((Kept.refl [] w).alloc (Obj.cells #[.int .i64 k.kind, .int .i64 k.flag, .string (bs k.text), .slice sa k.set.length scap, .slice ka k.keys.length kcap] 26))
  have HS := hid (fun W (hW : Kept [] w W) => markSpanS_any lo hi n _ k.set W (hsp.kept hW (by simp)) (by omega))
  have HR := hid (fun W (bs : List Nat) (hW : Kept bs w W) (hb : ∀ c ∈ bs, lo ≤ c ∧ c < hi ∧ 0 < k.set.length) => mark_go (nodesL k.keys + 1) k.keys _ lo hi (n + 2 * k.set.length) W (Nat.lt_succ_self _) (by omega) hn (hrow.kept hW (fun c hc h0 => by have := hex h0; have := (hb c hc).2.2; omega)))
  have HW : Hid (w.heap.size = w.heap.size) := rfl
  clear hsp hex hrow htx hn
  have hm : ∀ c ∈ (markTop n k).keys, True := fun _ _ => trivial
  clear hm
  go_enter Tryz.func15, Tryz.ntmps15
  go_wp2_with fail
  refine (HS.out _ KA.out).mono ?_
  rintro e w1 ⟨rfl, hS1, bs1, hb1, hK1⟩
  have hne : w.heap.size ∉ bs1 := fun e => by have := hb1 _ e; omega
  have hz := hK1.same HZ.out hne
  have z4 := cell_of_block hz 4
  simp at z4
  have hzl := lt_of_block hz
  have KK1 := KA.out.nil.trans hK1
  have HC := hid (HR.out w1 bs1 KK1 hb1)
  have HK1 := hid KK1
  have HS1 := hid hS1
  have HB1 := hid hb1
  clear hS1 hb1 hK1 hz hne KK1
  go_wp2_with fail
  refine HC.out.mono ?_
  rintro e w2 ⟨rfl, hY, bs2, hb2, hK2⟩
  have HY := hid hY
  have HB2 := hid hb2
  have HK2 := hid hK2
  clear hY hb2 hK2 z4 hzl
  go_wp2
  go_ret
  refine ⟨rfl, ?_, bs1 ++ bs2, fun c hc => ?_, HK1.out.trans' HK2.out (fun c h _ => by simp [h]) (fun c h _ => by simp [h])⟩
  · rw [keyX_parts]
    refine ⟨HTX.out, HS1.out.kept' HK2.out (fun c hc h0 => ?_), fun h0 => ?_, HY.out⟩
    · have h1 := (HB2.out c hc).2.2
      have h2 := HEX.out h1
      have h0 : 0 < (markSet n k.set).length := h0
      rw [markSet_len] at h0; omega
    · have h0 : 0 < (markL (n + 2 * k.set.length) k.keys).length := h0
      show (markSet n k.set).length = 0
      rw [markL_len] at h0
      rw [markSet_len]; exact HEX.out h0
  · rcases List.mem_append.1 hc with h | h
    · exact ⟨(HB1.out c h).1, (HB1.out c h).2.1⟩
    · exact ⟨(HB2.out c h).1, (HB2.out c h).2.1⟩
end Go.Proofs.YtoleonldkifcbaaGreatDoor
namespace Go.Proofs.YtoleonldkifcbaaGreatDoor
open Go.RowKit

theorem markL_get : ∀ (ks : List Ky) (n j : Nat) (h : j < (markL n ks).length) (h' : j < ks.length), (markL n ks)[j] = markK (n + cntL (ks.take j)) ks[j]
  | [], _, _, h, _ => by simp [markL] at h
  | k :: ks, n, 0, _, _ => by simp [markL, cntL]
  | k :: ks, n, j + 1, h, h' => by
    simp only [markL, List.getElem_cons_succ, List.take_succ_cons, cntL]
    rw [markL_get ks (n + cntK k) j (by simpa [markL] using h) (by simpa using h'), Nat.add_assoc]
theorem markK_kind (t : Nat) (k : Ky) : (markK t k).kind = (t : Int) := by cases k; unfold markK; rfl
theorem markK_flag (t : Nat) (k : Ky) : (markK t k).flag = (t : Int) + 1 := by cases k; unfold markK; simp [Ky.flag]
theorem markK_text (t : Nat) (k : Ky) : (markK t k).text = markT (t + 2) := by cases k; unfold markK; rfl
theorem markK_set (t : Nat) (k : Ky) : (markK t k).set = markSet (t + 3) k.set := by cases k; unfold markK; rfl
theorem markK_keys (t : Nat) (k : Ky) : (markK t k).keys = markL (t + 3 + 2 * k.set.length) k.keys := by cases k; unfold markK; rfl

set_option maxRecDepth 100000 in
theorem heldSpanS_any (n : Nat) (sv : Value) (d : List (Int × Int)) (w : World) (h : SpansAt 0 w sv (markSet n d)) (hn : n + 2 * d.length ≤ 900000) :
    Calls Tryz.prog 35 #[sv, .int .i64 n] w fun e w' => e = .returned (.int .i64 ((n + 2 * d.length : Nat) : Int)) ∧ Kept [] w w' := by
  obtain ⟨a, cap, b, off, rfl, hl, hcp, ha, hc⟩ := h
  rw [markSet_len] at hl hcp ha ⊢
  have HC : Hid (∀ j, j < d.length → w.cell? ⟨b, off + j * 2, none⟩ = some (.int .i64 ((n + 2 * j : Nat) : Int)) ∧ w.cell? ⟨b, off + j * 2 + 1, none⟩ = some (.int .i64 (((n + 2 * j : Nat) : Int) + 1))) := fun j hj => by
    have := hc j (by rw [markSet_len]; exact hj)
    rw [markSet_get] at this
    exact this
  have HA := hid ha
  have hl63 : d.length ≤ 9223372036854775807 := by omega
  clear hc ha hl
  go_enter Tryz.func35, Tryz.ntmps35
  go_wp2
  go_loopg [1, 5] d.length (fun m kv i W => ∃ j t : Nat, m = d.length - j ∧ j ≤ d.length ∧ i = .int .i64 j ∧ kv = .int .i64 t ∧ t = n + 2 * j ∧ Kept [] w W)
  case atStart => exact ⟨0, n, rfl, Nat.zero_le _, rfl, rfl, rfl, Kept.refl _ _⟩
  case round =>
    obtain ⟨j, t, hm, hj, rfl, rfl, ht, hK⟩ := hrel
    have HM := hid hm
    have HT := hid ht
    have HK := hid hK
    clear hm ht hK
    by_cases hlt : j < d.length
    · obtain ⟨rfl, -, -⟩ := HA.out (by omega)
      have c := HC.out j hlt
      rw [← HT.out] at c
      have c0 := HK.out.cell_some c.1 (by simp)
      have c1 := HK.out.cell_some c.2 (by simp)
      have i1 : (j : Int) < d.length := by omega
      have i4 : j < cap := by omega
      have ht1 : t ≤ 900000 := by have := HT.out; omega
      clear c
      go_wp2
      go_roundg (d.length - (j + 1))
      case measure => have := HM.out; omega
      case rel => exact ⟨j + 1, t + 2, rfl, by omega, by go_num, by go_num, by have := HT.out; omega, by first | exact HK.out | exact HK.out.drewN _⟩
    · obtain rfl : j = d.length := by omega
      go_wp2
      go_ret
      exact ⟨by rw [HT.out]; rfl, HK.out⟩

/-- Marks of so small keys are held. -/
def HeldGo (N : Nat) : Prop := ∀ (ks : List Ky) (kv : Value) (n : Nat) (w : World), nodesL ks < N → 0 < n → n + cntL ks ≤ 900000 → RowIn w (markL n ks) kv →
  Calls Tryz.prog 36 #[kv, .int .i64 n] w fun e w' => e = .returned (.int .i64 ((n + cntL ks : Nat) : Int)) ∧ Kept [] w w'

set_option maxRecDepth 100000 in
set_option maxHeartbeats 8000000 in
theorem held_step (N : Nat) (ih : HeldGo N) : HeldGo (N + 1) := by
  intro ks kv n w hN hn0 hn h
  obtain ⟨a, cap, b, off, rfl, hl, hcp, hba, hks⟩ := h
  rw [markL_len] at hl hcp hba ⊢
  have HKS := hid hks
  have HBA := hid hba
  have hl63 : ks.length ≤ 9223372036854775807 := by have := Nat.le_trans hl bigN_le; unfold maxLen at this; omega
  have HIH := hid ih
  have HIN : Hid (∀ x ∈ ks, nodesL x.keys < N) := fun x hx => by have := nodesL_get hx; have := nodesK_parts x; omega
  have HN := hid hn
  clear hks hba ih hN hn hl
  go_enter Tryz.func36, Tryz.ntmps36
  go_wp2
  go_loopg [1, 5] ks.length (fun m kv i W => ∃ j t : Nat, m = ks.length - j ∧ j ≤ ks.length ∧ i = .int .i64 j ∧ kv = .int .i64 t ∧ t = n + cntL (ks.take j) ∧ Kept [] w W)
  case atStart => exact ⟨0, n, rfl, Nat.zero_le _, rfl, rfl, by simp [cntL], Kept.refl _ _⟩
  case round =>
    obtain ⟨j, t, hm, hj, rfl, rfl, ht, hK⟩ := hrel
    have HM := hid hm
    have HT := hid ht
    have HK := hid hK
    clear hm ht hK
    by_cases hlt : j < ks.length
    · obtain ⟨rfl, -, -⟩ := HBA.out (by omega)
      have hlt' : j < (markL n ks).length := by rw [markL_len]; exact hlt
      obtain ⟨sv, kv, c0, c1, c2, c3, c4, hk1⟩ := KeysIn.get b off _ HKS.out j hlt'
      obtain ⟨k, hk⟩ : ∃ k, ks[j] = k := ⟨_, rfl⟩
      have HIK := hid (HIN.out ks[j] (List.getElem_mem _))
      have hcn := cntL_get ks j hlt
      have hcl := cntL_take_le ks (j + 1)
      have hmk := markL_get ks n j hlt' hlt
      rw [← HT.out] at hmk
      rw [hk] at hmk HIK hcn
      rw [hmk] at c0 c1 c2 hk1
      rw [markK_kind] at c0
      rw [markK_flag] at c1
      rw [markK_text] at c2
      have hck := cntK_parts k
      have ht2 : t + 3 + 2 * k.set.length + cntL k.keys ≤ 900000 := by have := HN.out; have := HT.out; omega
      have HCNT : Hid (t + 3 + 2 * k.set.length + cntL k.keys = n + cntL (ks.take (j + 1))) := by show _ = _; have := HT.out; omega
      have ht4 : t ≤ 900000 := by omega
      have ht0 : 0 < t := by have := HT.out; omega
      have hsp := hk1.parts.2.1
      have hrow := hk1.row
      rw [markK_set] at hsp
      rw [markK_keys] at hrow
      have HMT := hid (fun W => show Calls Tryz.prog 53 #[.int .i64 ((t : Int) + 1 + 1)] W (fun e w' => e = .returned (.string (bs (markT (t + 2)))) ∧ Kept [] W w') from by
        rw [show ((t : Int) + 1 + 1) = ((t + 2 : Nat) : Int) by omega]; exact markText_any (t + 2) (by omega) (by omega) W)
      have hnb3 : t + 3 + 2 * k.set.length ≤ 900000 := by omega
      have HSP := hid (fun W (hW : Kept [] w W) => show Calls Tryz.prog 35 #[sv, .int .i64 ((t : Int) + 1 + 1 + 1)] W (fun e w' => e = .returned (.int .i64 ((t + 3 + 2 * k.set.length : Nat) : Int)) ∧ Kept [] W w') from by
        rw [show ((t : Int) + 1 + 1 + 1) = ((t + 3 : Nat) : Int) by omega]; exact heldSpanS_any (t + 3) sv k.set W (hsp.kept0 hW) hnb3)
      have HKR := hid (fun W (hW : Kept [] w W) => HIH.out k.keys kv (t + 3 + 2 * k.set.length) W HIK.out (by omega) ht2 (hrow.kept0 hW))
      have c0 := HK.out.cell_some c0 (by simp)
      have c1 := HK.out.cell_some c1 (by simp)
      have c2 := HK.out.cell_some c2 (by simp)
      have c3 := HK.out.cell_some c3 (by simp)
      have c4 := HK.out.cell_some c4 (by simp)
      have i1 : (j : Int) < ks.length := by omega
      have i4 : j < cap := by omega
      have CK := hid (fun W (h : Kept [] wr W) => (show W.cell? ⟨b, off + j * 5 + 2, none⟩ = some (.string (bs (markT (t + 2)))) from h.cell_some c2 (by simp)))
      generalize markT (t + 2) = tx at c2 HMT CK
      clear hk1 hsp hrow hck hcl hcn hmk hlt'
      go_wp2
      go_region_held3 (fun w' => w'.cell? ⟨b, off + j * 5 + 2, none⟩ = some (.string (bs tx)))
        (first
          | go_keep
          | exact CK.out _ (by repeat' with_reducible first | exact hKK | exact Kept.refl _ _ | refine Kept.drew ?_ | refine Kept.alloc ?_ _))
        ((go_at_call 53; with_reducible refine (HMT.out _).mono ?_; rintro e w2 ⟨rfl, hK2⟩; have hKK := Kept.trans (a := wr) (by repeat' with_reducible first | exact Kept.refl _ _ | refine Kept.drew ?_ | refine Kept.alloc ?_ _) hK2))
      all_goals
        refine gen_world (fun W => Kept [] wr W) ?_ ?_
        · repeat' with_reducible first | exact hKK | refine Kept.drewN ?_ _ | refine Kept.drew ?_ | refine Kept.alloc ?_ _
        intro W hKW
        have c3 := hKW.cell_some c3 (by simp)
        have c4 := hKW.cell_some c4 (by simp)
        have HKW := hid (HK.out.trans hKW)
        clear hKW CK
        go_wp2_with fail
        refine (HSP.out _ HKW.out).mono ?_
        rintro e w3 ⟨rfl, hK3⟩
        have c4 := hK3.cell_some c4 (by simp)
        have HK3 := hid (HKW.out.trans hK3)
        have hnn : ¬ ((t + 3 + 2 * k.set.length : Nat) : Int) < 0 := by omega
        clear hK3
        go_wp2_with fail
        refine (HKR.out _ HK3.out).mono ?_
        rintro e w4 ⟨rfl, hK4⟩
        have HK4 := hid (HK3.out.trans hK4)
        have hnn : ¬ ((t + 3 + 2 * k.set.length + cntL k.keys : Nat) : Int) < 0 := by omega
        clear hK4
        go_wp2
        go_roundg (ks.length - (j + 1))
        case measure => have := HM.out; omega
        case rel => exact ⟨j + 1, t + 3 + 2 * k.set.length + cntL k.keys, rfl, by omega, by go_num, by go_num, HCNT.out, HK4.out⟩
    · obtain rfl : j = ks.length := by omega
      have HTT : Hid (t = n + cntL ks) := by show _ = _; rw [HT.out, List.take_length]
      go_wp2
      go_ret
      exact ⟨by rw [HTT.out]; rfl, HK.out⟩
theorem held_go : ∀ N, HeldGo N
  | 0 => fun _ _ _ _ h => absurd h (Nat.not_lt_zero _)
  | N + 1 => held_step N (held_go N)

set_option maxRecDepth 100000 in
theorem heldKey_any (n : Nat) (k : Ky) (a b : Int) (c : ByteArray) (sv kv : Value) (w : World) (hsp : SpansAt 0 w sv (markSet n k.set)) (hrow : RowIn w (markL (n + 2 * k.set.length) k.keys) kv) (hn0 : 0 < n) (hn : n + 2 * k.set.length + cntL k.keys ≤ 900000) :
    Calls Tryz.prog 16 #[.agg #[.int .i64 a, .int .i64 b, .string c, sv, kv], .int .i64 n] w fun e w' => e = .returned (.int .i64 ((n + 2 * k.set.length + cntL k.keys : Nat) : Int)) ∧ Kept [] w w' := by
  have hn2 : n + 2 * k.set.length ≤ 900000 := by omega
  have HS := hid (fun W (hW : Kept [] w W) => heldSpanS_any n sv k.set W (hsp.kept0 hW) hn2)
  have HR := hid (fun W (hW : Kept [] w W) => held_go (nodesL k.keys + 1) k.keys kv (n + 2 * k.set.length) W (Nat.lt_succ_self _) (by omega) hn (hrow.kept0 hW))
  obtain ⟨sa, scap, rfl⟩ := hsp.form
  obtain ⟨ka, kcap, kb, koff, rfl, -⟩ := hrow
  have HZ := hid (new_block w (Obj.cells #[.int .i64 a, .int .i64 b, .string c, .slice sa (markSet n k.set).length scap, .slice ka (markL (n + 2 * k.set.length) k.keys).length kcap] 26))
  have KA := hid ((Kept.refl [] w).alloc (Obj.cells #[.int .i64 a, .int .i64 b, .string c, .slice sa (markSet n k.set).length scap, .slice ka (markL (n + 2 * k.set.length) k.keys).length kcap] 26))
  generalize (markSet n k.set).length = sl at *
  generalize (markL (n + 2 * k.set.length) k.keys).length = kl at *
  clear hsp
  go_enter Tryz.func16, Tryz.ntmps16
  go_wp2_with fail
  refine (HS.out _ KA.out).mono ?_
  rintro e w1 ⟨rfl, hK1⟩
  have hz := hK1.same HZ.out (by simp)
  have z4 := cell_of_block hz 4
  simp at z4
  have hzl := lt_of_block hz
  have HK1 := hid (KA.out.trans hK1)
  have hnn : ¬ ((n + 2 * k.set.length : Nat) : Int) < 0 := by omega
  clear hK1 hz
  go_wp2_with fail
  refine (HR.out _ HK1.out).mono ?_
  rintro e w2 ⟨rfl, hK2⟩
  have HK2 := hid (HK1.out.trans hK2)
  have hnn2 : ¬ ((n + 2 * k.set.length + cntL k.keys : Nat) : Int) < 0 := by omega
  clear hK2 z4 hzl
  go_wp2
  go_ret
  exact ⟨rfl, HK2.out⟩
end Go.Proofs.YtoleonldkifcbaaGreatDoor
