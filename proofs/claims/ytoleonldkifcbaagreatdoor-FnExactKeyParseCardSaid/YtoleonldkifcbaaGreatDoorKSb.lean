/- The walks of sets: their texts (both sides). -/
import Derived.Test.YtoleonldkifcbaaGreatDoorKSa
import Derived.Test.YtoleonldkifcbaaGreatDoorShelf
import Derived.Deep.RegionHeld3
import Derived.Deep.CutRange
namespace Go.Proofs.YtoleonldkifcbaaGreatDoor
open Go.RowKit

theorem dec_small : ∀ n : Fin 100, n.val ≠ 0 → Lib.decDigits n.val = numT n.val := by
  intro n h
  unfold numT Lib.decDigits
  rw [if_neg (by omega)]
  have hn := n.isLt
  by_cases h10 : n.val < 10
  · rw [dif_pos h10, if_pos (by omega)]; simp
  · rw [dif_neg h10, if_neg (by omega)]
    unfold Lib.decDigits
    rw [dif_pos (by omega)]
    simp
theorem setNumberText_any (n : Int) (w : World) (h : nOk n = true) : Calls Tryz.prog 59 #[.int .i64 n] w fun e w' => e = .returned (.string (bs (numT n))) ∧ w' = w := by
  unfold nOk at h
  simp at h
  obtain ⟨m, rfl⟩ : ∃ m : Nat, n = m := ⟨n.toNat, by omega⟩
  have hm : m < 100 := by omega
  clear h
  by_cases h0 : m = 0
  · subst h0
    go_enter Tryz.func59, Tryz.ntmps59
    go_wp2
    go_ret
    exact ⟨rfl, rfl⟩
  · have HD := hid (dec_small ⟨m, hm⟩ h0)
    have h0' : ((m : Int) == 0) = false := by rw [beq_eq_false_iff_ne]; omega
    clear h0
    go_enter Tryz.func59, Tryz.ntmps59
    go_wp2_with fail
    refine (Tryz.strconv_Itoa_small m hm w).mono ?_
    rintro e w1 ⟨rfl, rfl⟩
    go_wp2
    go_ret
    exact ⟨ret_str (by have := HD.out; rw [this]; rfl), rfl⟩

/-- The first k strings of spans lie in a block. -/
def PartAt (g : Nat) (l : List (Int × Int)) (k : Nat) (w : World) : Prop :=
  ∃ C : Array Value, w.heap[g]? = some (.cells C 9 (0, 0)) ∧ C.size = l.length ∧ ∀ i (h : i < l.length), i < k → C[i]? = some (.string (bs (spanT l[i])))
theorem PartAt.kept {g k : Nat} {l : List (Int × Int)} {w w' : World} (h : PartAt g l k w) (K : Kept [] w w') : PartAt g l k w' := by
  obtain ⟨C, h1, h2, h3⟩ := h
  exact ⟨C, K.same h1 (by simp), h2, h3⟩
theorem PartAt.lt {g k : Nat} {l : List (Int × Int)} {w : World} (h : PartAt g l k w) : g < w.heap.size := by
  obtain ⟨C, h1, -⟩ := h; exact lt_of_block h1
theorem PartAt.cell {g k : Nat} {l : List (Int × Int)} {w : World} (h : PartAt g l k w) (j : Nat) (hj : j < l.length) : (∃ v, w.cell? ⟨g, j, none⟩ = some v) ∧ w.frozen? ⟨g, j, none⟩ = false := by
  obtain ⟨C, h1, h2, -⟩ := h
  exact ⟨⟨C[j], by rw [cell_of_block h1]; simp [h2, hj]⟩, frozen_of_block h1 j⟩
theorem PartAt.set {g k : Nat} {l : List (Int × Int)} {w : World} (h : PartAt g l k w) (x : Value) (hk : k < l.length) :
    PartAt g l k (w.setCell ⟨g, k, none⟩ x) ∧ (w.setCell ⟨g, k, none⟩ x).cell? ⟨g, k, none⟩ = some x := by
  obtain ⟨C, h1, h2, h3⟩ := h
  refine ⟨⟨_, set_of_block h1 x, by simp [h2], fun i hi hik => ?_⟩, ?_⟩
  · rw [Array.getElem?_setIfInBounds_ne (by omega)]; exact h3 i hi hik
  · rw [cell_of_block (set_of_block h1 x), Array.getElem?_setIfInBounds_self_of_lt (by omega)]
theorem PartAt.next {g k : Nat} {l : List (Int × Int)} {w : World} (h : PartAt g l k w) (hk : k < l.length) (hc : w.cell? ⟨g, k, none⟩ = some (.string (bs (spanT l[k])))) : PartAt g l (k + 1) w := by
  obtain ⟨C, h1, h2, h3⟩ := h
  refine ⟨C, h1, h2, fun i hi hik => ?_⟩
  rcases Nat.lt_or_ge i k with h | h
  · exact h3 i hi h
  · have : i = k := by omega
    subst this; rw [← cell_of_block h1]; exact hc

theorem PartAt.put {g k : Nat} {l : List (Int × Int)} {w : World} (h : PartAt g l k w) (hk : k < l.length) (x : ByteArray) (hx : x = bs (spanT l[k])) : PartAt g l (k + 1) (w.setCell ⟨g, k, none⟩ (.string x)) := by
  subst hx; exact (h.set _ hk).1.next hk (h.set _ hk).2
theorem span_bs (a b : List UInt8) : bs a ++ ((⟨#[58]⟩ : ByteArray) ++ bs b) = bs (a ++ 58 :: b) := by
  rw [← toList_inj]; simp
theorem joinT_lib (L : List (List UInt8)) : Lib.join L [44] = joinT L := by
  unfold Lib.join
  induction L with
  | nil => rfl
  | cons p l ih =>
    cases l with
    | nil => simp [List.intercalate, joinT]
    | cons q r =>
      rw [joinT, ← ih]
      simp [List.intercalate]

set_option maxRecDepth 100000 in
set_option maxHeartbeats 2000000 in
theorem iSetText_any (lo : Nat) (v : Value) (l : List (Int × Int)) (w : World) (hu : SpansAt lo w v l) :
    Calls Tryz.prog 39 #[v] w fun e w' => e = .returned (.string (bs (setT l))) ∧ Kept [] w w' := by
  have hu' := hu
  obtain ⟨a, cap, b, off, rfl, hl, hcp, ha, hc⟩ := hu
  have HC := hid hc
  have HA := hid ha
  have HL := hid hl
  have hl63 : l.length ≤ 2 ^ 63 - 1 := by have := Nat.le_trans hl bigN_le; unfold maxLen at this; exact this
  clear hc ha hl
  by_cases hok : setOk l = true
  · have hmem := setOk_mem hok
    have HM := hid hmem.1
    have hlen1 := hmem.2.1
    have hlen6 := hmem.2.2
    have HT : Hid (setT l = joinT (l.map spanT)) := by show _ = _; unfold setT; rw [if_pos hok]
    have hmk := run_make_gen 45 9 _ 1 16 Tryz.underlying45 inf_string (by decide) l.length l.length (Nat.le_refl _) HL.out
    obtain ⟨rfl, -, hbw⟩ := HA.out (by omega)
    go_enter Tryz.func39, Tryz.ntmps39
    go_wp2_with fail
    refine (iSetValid_any lo _ l w hu').mono ?_
    rintro e w1 ⟨rfl, hK⟩
    rw [hok]
    have HK := hid hK
    clear hK hu' hok hmem
    go_wp2
    go_loopg [14] l.length (fun m i wr => ∃ k : Nat, m = l.length - k ∧ k ≤ l.length ∧ i = .int .i64 k ∧ PartAt w1.heap.size l k wr ∧ Kept [] w wr)
    case atStart =>
      refine ⟨0, rfl, Nat.zero_le _, rfl, ⟨_, new_block _ _, by rw [made_size], fun i _ h => by omega⟩, HK.out.alloc _⟩
    case round =>
      obtain ⟨k, hm, hk, rfl, hP, hKw⟩ := hrel
      have HMS := hid hm
      have HP := hid hP
      have HKw := hid hKw
      clear hm hP hKw
      by_cases hlt : k < l.length
      · obtain ⟨c0, c1⟩ := HC.out k hlt
        have c0 := HKw.out.cell_some c0 (by simp)
        have c1 := HKw.out.cell_some c1 (by simp)
        have i1 : (k : Int) < l.length := by omega
        have i3 : (0 : Int) ≤ k := by omega
        have i4 : k < cap := by omega
        obtain ⟨⟨vk, hvk⟩, hfk⟩ := HP.out.cell k hlt
        have hpl := HP.out.lt
        have hn1 := (HM.out l[k] (List.getElem_mem _)).1
        have hn2 := (HM.out l[k] (List.getElem_mem _)).2
        have hbl : ¬ b = w1.heap.size := by have := HK.out.size; omega
        have hb2 := (numT_ok hn1).2.2.2.2.1
        have hb3 := (numT_ok hn2).2.2.2.2.1
        have HSP := hid (HP.out.set (.string (bs (numT l[k].1))) hlt)
        by_cases heq : l[k].2 = l[k].1
        · have hne : (l[k].2 != l[k].1) = false := by simp [heq]
          have HSPT : Hid (spanT l[k] = numT l[k].1) := by show _ = _; unfold spanT; rw [if_pos heq, List.append_nil]
          clear heq
          go_wp2_with (go_at_call 59; refine (setNumberText_any _ _ hn1).mono ?_; rintro e w' ⟨rfl, rfl⟩)
          go_roundg (l.length - (k + 1))
          case measure => have := HMS.out; omega
          case rel =>
            refine ⟨k + 1, rfl, by omega, by go_num, ?_, ?_⟩
            · refine (HSP.out.1.next hlt ?_).kept ((Kept.refl _ _).alloc _)
              rw [HSPT.out]; exact HSP.out.2
            · exact (HKw.out.setCell _ _ (by have := HK.out.size; simp; omega)).alloc _
        · have hne : (l[k].2 != l[k].1) = true := by simp [heq]
          have HSPT : Hid (spanT l[k] = numT l[k].1 ++ 58 :: numT l[k].2) := by show _ = _; unfold spanT; rw [if_neg heq]
          clear heq
          go_wp2_with (go_at_call 59; refine (setNumberText_any _ _ hn1).mono ?_; rintro e w' ⟨rfl, rfl⟩)
          refine gen_world (fun W => PartAt w1.heap.size l k W ∧ W.cell? ⟨w1.heap.size, k, none⟩ = some (.string (bs (numT l[k].1))) ∧ W.cell? ⟨wr.heap.size, 1, none⟩ = some (.int .i64 l[k].2) ∧ Kept [] w W ∧ wr.heap.size < W.heap.size) ⟨?_, ?_, ?_, ?_, ?_⟩ ?_
          · exact HSP.out.1.kept ((Kept.refl _ _).alloc _)
          · exact ((Kept.refl [] _).alloc _).cell_some HSP.out.2 (by simp)
          · have := cell_of_block (new_block (wr.setCell ⟨w1.heap.size, k, none⟩ (.string (bs (numT l[k].1)))) (Obj.cells #[.int .i64 l[k].1, .int .i64 l[k].2] 85)) 1
            simpa using this
          · exact (HKw.out.setCell _ _ (by have := HK.out.size; simp; omega)).alloc _
          · simp
          clear HSP HP hvk hfk hpl c0 c1 HKw
          rintro W ⟨hP2, hc2, hc3, hK2, hz2⟩
          obtain ⟨-, hfk⟩ := hP2.cell k hlt
          have hpl := hP2.lt
          have HP2 := hid hP2
          have HK2 := hid hK2
          clear hP2 hK2
          have s1 : (1 : Int) + (numT l[k].2).length ≤ 9223372036854775807 := by omega
          have s2 : ((numT l[k].1).length : Int) + (1 + (numT l[k].2).length) ≤ 9223372036854775807 := by omega
          have HPUT := hid (HP2.out.put hlt _ (show bs (numT l[k].1) ++ ((⟨#[58]⟩ : ByteArray) ++ bs (numT l[k].2)) = _ by rw [HSPT.out, ← span_bs]))
          have HNB : Hid ((Addr.mk w1.heap.size k none).block < w.heap.size → (Addr.mk w1.heap.size k none).block ∈ ([] : List Nat)) := fun h => by have := HK.out.size; have h : w1.heap.size < w.heap.size := h; omega
          go_region_with ((go_at_call 59; refine (setNumberText_any _ _ hn2).mono ?_; rintro e w' ⟨rfl, rfl⟩))
          all_goals
            go_wp2
            go_roundg (l.length - (k + 1))
            case measure => have := HMS.out; omega
            case rel =>
              refine ⟨k + 1, rfl, by omega, by go_num, ?_, ?_⟩
              · exact HPUT.out
              · repeat' with_reducible first | exact HK2.out | refine Kept.drew ?_ | refine Kept.drewN ?_ _ | refine Kept.setCell ?_ _ _ HNB.out
      · obtain rfl : k = l.length := by omega
        have HCL : Hid (∀ (j : Nat) (x : ByteArray), (l.map (fun s => bs (spanT s)))[j]? = some x → wr.cell? ⟨w1.heap.size, 0 + j, none⟩ = some (.string x)) := by
          intro j x hj
          obtain ⟨C, q1, q2, q3⟩ := HP.out
          rw [List.getElem?_map] at hj
          rcases Nat.lt_or_ge j l.length with h | h
          · rw [List.getElem?_eq_getElem h] at hj
            simp at hj
            rw [Nat.zero_add, cell_of_block q1, q3 j h h, hj]
          · rw [List.getElem?_eq_none h] at hj; simp at hj
        have hpl := HP.out.lt
        have hjl := joinT_len (l.map spanT) 5 (fun p hp => by
          obtain ⟨s, hs, rfl⟩ := List.mem_map.1 hp; exact (spanT_ok (HM.out s hs).1 (HM.out s hs).2).2.2.2)
        rw [List.length_map] at hjl
        have hmm : ((l.map (fun s => bs (spanT s))).map (·.data.toList)) = l.map spanT := by simp
        have HJ := hid (Tryz.strings_Join w1.heap.size 0 l.length (l.map (fun s => bs (spanT s))) ⟨#[44]⟩ wr HCL.out hpl (by rw [List.length_map]; omega) (by rw [List.length_map]; omega) (by rw [hmm, show (⟨#[44]⟩ : ByteArray).data.toList = [44] from rfl, joinT_lib]; have := Nat.mul_le_mul_right 6 hlen6; omega))
        rw [hmm, show (⟨#[44]⟩ : ByteArray).data.toList = [44] from rfl, joinT_lib, List.length_map] at HJ
        go_wp2_with fail
        refine HJ.out.mono ?_
        rintro e w2 ⟨rfl, hB⟩
        go_wp2
        go_ret
        exact ⟨ret_str (by rw [HT.out]; rfl), HKw.out.trans (Kept.of_below hB)⟩
  · have hf : setOk l = false := by simpa using hok
    have HT : Hid (setT l = []) := by show _ = _; unfold setT; rw [if_neg hok]
    go_enter Tryz.func39, Tryz.ntmps39
    go_wp2_with fail
    refine (iSetValid_any lo _ l w hu').mono ?_
    rintro e w1 ⟨rfl, hK⟩
    rw [hf]
    have HK := hid hK
    clear hK hu' hok hf
    go_wp2
    go_ret
    exact ⟨ret_str (by rw [HT.out]; rfl), HK.out⟩
end Go.Proofs.YtoleonldkifcbaaGreatDoor
namespace Go.Proofs.YtoleonldkifcbaaGreatDoor
open Go.RowKit

theorem one_byte (W : World) (g : Nat) (x : UInt8) (h : W.cell? ⟨g, 0, none⟩ = some (.int .u8 x.toNat)) :
    (convert 22 9 (.slice (some ⟨g, 0, none⟩) 1 1)).run Tryz.prog W = .ok (.string ⟨#[x]⟩) W := by
  have := run_convert_bytes_back (P := Tryz.prog) W 22 9 5 ⟨g, 0, none⟩ 1 [x] Tryz.underlying22 Tryz.underlying5 Tryz.underlying9 (fun j hj => by
    have : j = 0 := by simpa using hj
    subst this
    simpa [Addr.add] using h)
  exact this

theorem dec_len (n : Nat) : (Lib.decDigits n).length ≤ n + 1 := by
  induction n using Nat.strongRecOn with
  | ind n ih =>
    rw [Lib.decDigits]
    split
    · simp
    · have := ih (n / 10) (by omega)
      simp; omega
theorem bs_one (a : List UInt8) (d : UInt8) : bs a ++ (⟨#[d]⟩ : ByteArray) = bs (a ++ [d]) := by
  rw [← toList_inj]; simp
theorem dig_byte (m : Nat) (h : m < 10) : ((48 + m : Int)) = ((UInt8.ofNat (48 + m)).toNat : Int) := by
  rw [UInt8.toNat_ofNat_of_lt' (by show _ < 256; omega)]
  omega

set_option maxRecDepth 100000 in
set_option maxHeartbeats 1600000 in
theorem l6Dec_any (n : Nat) (hn : n ≤ bigN) (w : World) :
    Calls Tryz.prog 84 #[.int .i64 n] w fun e w' => e = .returned (.string (bs (Lib.decDigits n))) ∧ Kept [] w w' := by
  induction n using Nat.strongRecOn generalizing w with
  | ind n ih =>
    have HN := hid hn
    have HIH := hid ih
    clear ih hn
    have n0 : ¬ (n : Int) < 0 := by omega
    obtain ⟨K, hK⟩ : ∃ K : Int, (-9223372036854775807 : Int) = K := ⟨_, rfl⟩
    have nb : ¬ (n : Int) < K := by omega
    have HK := hid hK
    clear hK
    by_cases h10 : n < 10
    · have h10' : (n : Int) < 10 := by omega
      have hdw := hid (dig_byte n h10)
      have hD : Hid (Lib.decDigits n = [UInt8.ofNat (48 + n)]) := by show _ = _; rw [Lib.decDigits, dif_pos h10]
      obtain ⟨d, hd⟩ : ∃ d : UInt8, UInt8.ofNat (48 + n) = d := ⟨_, rfl⟩
      rw [hd] at hdw hD
      clear hd
      go_enter Tryz.func84, Tryz.ntmps84
      rw [HK.out]
      go_wp2
      rw [one_byte _ _ d (by rw [cell_new1, hdw.out])]
      simp only [Result.andThen]
      rw [Oper.upon_value]
      go_wp2
      go_ret
      exact ⟨ret_str (by rw [hD.out]; rfl), (Kept.refl _ _).alloc _⟩
    · have h10' : ¬ (n : Int) < 10 := by omega
      have hq : (n : Int).tdiv 10 = ((n / 10 : Nat) : Int) := by rw [Int.tdiv_eq_ediv_of_nonneg (by omega)]; rfl
      have hr : (n : Int).tmod 10 = ((n % 10 : Nat) : Int) := by rw [Int.tmod_eq_emod_of_nonneg (by omega)]; rfl
      have hq2 : (n : Int) / 10 = ((n / 10 : Nat) : Int) := rfl
      have hr2 : (n : Int) % 10 = ((n % 10 : Nat) : Int) := rfl
      have hD : Hid (Lib.decDigits n = Lib.decDigits (n / 10) ++ [UInt8.ofNat (48 + n % 10)]) := by show _ = _; rw [Lib.decDigits, dif_neg h10]
      have HC := hid (fun w => HIH.out (n / 10) (by omega) (by have := HN.out; omega) w)
      obtain ⟨q, hqq⟩ : ∃ q : Nat, n / 10 = q := ⟨_, rfl⟩
      obtain ⟨r, hrr⟩ : ∃ r : Nat, n % 10 = r := ⟨_, rfl⟩
      have hr9 : r < 10 := by omega
      rw [hqq] at hq hq2 hD HC
      rw [hrr] at hr hr2 hD
      clear hqq hrr HIH
      have hdw := hid (dig_byte r hr9)
      obtain ⟨d, hd⟩ : ∃ d : UInt8, UInt8.ofNat (48 + r) = d := ⟨_, rfl⟩
      rw [hd] at hdw hD
      clear hd
      have hcv : ∀ (W : World) (g : Nat), W.cell? ⟨g, 0, none⟩ = some (.int .u8 (48 + (r : Int))) → (convert 22 9 (.slice (some ⟨g, 0, none⟩) 1 1)).run Tryz.prog W = .ok (.string ⟨#[d]⟩) W := fun W g h => one_byte W g d (by rw [h, hdw.out])
      have s1 : ¬ 9223372036854775807 < (Lib.decDigits q).length + 1 := by have h1 := dec_len q; have h2 := HN.out; unfold bigN at h2; omega
      have v1 : IntKind.i64.wrap (q : Int) = q := wraps_i64_31 _ (by omega) (by have := HN.out; unfold bigN at this; omega)
      have v2 : IntKind.i64.wrap (48 + (r : Int)) = 48 + (r : Int) := wraps_i64_31 _ (by omega) (by omega)
      have v3 : IntKind.u8.wrap (48 + (r : Int)) = 48 + (r : Int) := wraps_u8 _ (by omega) (by omega)
      go_enter Tryz.func84, Tryz.ntmps84
      rw [HK.out]
      go_wp2
      go_region_with ((go_at_call 84; refine (HC.out _).mono ?_; rintro e w1 ⟨rfl, hK⟩; try (have hcw : w1.cell? ⟨w.heap.size, 0, none⟩ = some (.int .u8 (48 + (r : Int))) := hK.cell_some (cell_new1 _ _ _) (by simp))))
      all_goals
        go_wp2
        go_ret
        refine ⟨ret_str (by rw [hD.out, ← bs_one]), ?_⟩
        repeat' with_reducible first | exact Kept.refl _ _ | refine Kept.drew ?_ | refine Kept.drewN ?_ _ | refine Kept.alloc ?_ _ | refine Kept.trans ?_ hK

theorem l3Word_any (n : Int) (w : World) (h : nOk n = true) : Calls Tryz.prog 63 #[.int .i64 n] w fun e w' => e = .returned (.string (bs (numT n))) ∧ Kept [] w w' := by
  unfold nOk at h
  simp at h
  obtain ⟨m, rfl⟩ : ∃ m : Nat, n = m := ⟨n.toNat, by omega⟩
  have hm : m < 100 := by omega
  clear h
  by_cases h0 : m = 0
  · subst h0
    go_enter Tryz.func63, Tryz.ntmps63
    go_wp2
    go_ret
    exact ⟨rfl, Kept.refl _ _⟩
  · have HD := hid (dec_small ⟨m, hm⟩ h0)
    have h0' : ((m : Int) == 0) = false := by rw [beq_eq_false_iff_ne]; omega
    clear h0
    go_enter Tryz.func63, Tryz.ntmps63
    go_wp2_with fail
    refine (l6Dec_any m (by unfold bigN; omega) w).mono ?_
    rintro e w1 ⟨rfl, hK⟩
    go_wp2
    go_ret
    exact ⟨ret_str (by have := HD.out; rw [this]), hK⟩

/-- The number of a word as the reference gives it: -1 for none. -/
def numI (p : List UInt8) : Int := (numW p).getD (-1)
theorem numI_len {p : List UInt8} (h : ¬ (p.length = 1 ∨ p.length = 2)) : numI p = -1 := by
  match p with
  | [] => rfl
  | [c] => simp at h
  | [c, d] => simp at h
  | _ :: _ :: _ :: _ => rfl

theorem numI_zero {p : List UInt8} (h0 : p.head? = some 48) : numI p = -1 := by
  match p with
  | [] => rfl
  | [c] => simp at h0; subst h0; rfl
  | [c, d] => simp at h0; subst h0; simp [numI, numW]
  | _ :: _ :: _ :: _ => rfl
theorem numI_bad {p : List UInt8} (h42 : p ≠ [42]) (k : Nat) (hk : k < p.length) (h : isDg p[k] = false) : numI p = -1 := by
  match p, hk with
  | [c], hk =>
    have : k = 0 := by simp at hk; exact hk
    subst this
    have h' : isDg c = false := h
    have : c ≠ 42 := fun e => h42 (by rw [e])
    simp [numI, numW, this, h']
  | [c, d], hk =>
    have : k = 0 ∨ k = 1 := by simp at hk; omega
    rcases this with rfl | rfl
    · have h' : isDg c = false := h
      simp [numI, numW, h']
    · have h' : isDg d = false := h
      simp [numI, numW, h']
  | _ :: _ :: _ :: _, _ => rfl
theorem numI_digs {p : List UInt8} (hl : p.length = 1 ∨ p.length = 2) (h0 : p.head? ≠ some 48) (h : ∀ i, i < p.length → isDg (p.getD i 0) = true) : numI p = digs p p.length := by
  match p with
  | [] => simp at hl
  | [c] =>
    have h1 : isDg c = true := h 0 (by simp)
    have : c ≠ 42 := (isDg_ne h1).1
    have : c ≠ 48 := by simpa using h0
    simp [numI, numW, digs, *]
  | [c, d] =>
    have h1 : isDg c = true := h 0 (by simp)
    have h2 : isDg d = true := h 1 (by simp)
    have : c ≠ 48 := by simpa using h0
    simp [numI, numW, digs, *]
  | _ :: _ :: _ :: _ => simp at hl

set_option maxHeartbeats 1000000 in
theorem l3Number_any (p : List UInt8) (w : World) (hp : p.length ≤ bigN) : Calls Tryz.prog 90 #[.string (bs p)] w fun e w' => e = .returned (.int .i64 (numI p)) ∧ w' = w := by
  have HB := hid hp
  clear hp
  by_cases hst : p = [42]
  · have HI : Hid (numI p = 0) := by show _ = _; subst hst; rfl
    have hst' : ((bs p).toList == [42]) = true := by rw [str_eq, bs_toList, decide_eq_true_eq]; exact hst
    clear hst
    go_enter Tryz.func90, Tryz.ntmps90
    go_wp2
    go_ret
    exact ⟨ret_int HI.out.symm, rfl⟩
  · have hst' : ((bs p).toList == [42]) = false := by rw [str_eq, bs_toList, decide_eq_false_iff_not]; exact hst
    by_cases hl : p.length = 1 ∨ p.length = 2
    · have hI : (decide ((1 : Int) ≤ (p.length : Int)) && decide ((p.length : Int) ≤ 2)) = true := by
        rw [Bool.and_eq_true, decide_eq_true_eq, decide_eq_true_eq]; omega
      have hpos : 0 < p.length := by omega
      have hle2 : p.length ≤ 2 := by omega
      have HST := hid hst
      have HL := hid hl
      clear hst hl
      have hpi : (0 : Int) < p.length := by omega
      by_cases h48 : p[0] = 48
      · have h48' : (((bs p)[0]'(by rw [bs_size]; exact hpos)).toNat : Int) = 48 := by show ((p[0]).toNat : Int) = 48; rw [h48]; rfl
        have HI : Hid (numI p = -1) := by
          show _ = _
          apply numI_zero; rw [List.head?_eq_getElem?, List.getElem?_eq_getElem hpos, h48]
        clear h48
        go_enter Tryz.func90, Tryz.ntmps90
        go_wp2_with (go_at_call 83; refine (l6In_any _ _ _ _).mono ?_; rintro e w' ⟨rfl, rfl⟩; rw [hI])
        go_ret
        exact ⟨ret_int HI.out.symm, rfl⟩
      · have h48' : ((((bs p)[0]'(by rw [bs_size]; exact hpos)).toNat : Int) == 48) = false := by
          rw [beq_eq_false_iff_ne]
          show ¬ ((p[0]).toNat : Int) = 48
          intro e; exact h48 (UInt8.toNat_inj.1 (by have h9 : (48 : UInt8).toNat = 48 := rfl; omega))
        have HH : Hid (p.head? ≠ some 48) := by
          show _ ≠ _
          rw [List.head?_eq_getElem?, List.getElem?_eq_getElem hpos]; intro e; injection e with e; exact h48 e
        clear h48
        go_enter Tryz.func90, Tryz.ntmps90
        go_wp2_with (go_at_call 83; refine (l6In_any _ _ _ _).mono ?_; rintro e w' ⟨rfl, hw⟩; rw [hw, hI])
        go_loopg [3, 4] 3 (fun m x i wr => ∃ k : Nat, m = 3 - k ∧ k ≤ p.length ∧ i = .int .i64 k ∧ x = .int .i64 (digs p k) ∧ (∀ i, i < k → isDg (p.getD i 0) = true) ∧ wr = w)
        case atStart => exact ⟨0, rfl, Nat.zero_le _, rfl, rfl, fun i hi => by omega, rfl⟩
        case round =>
          obtain ⟨k, hm, hk, rfl, rfl, hall, rfl⟩ := hrel
          have HM := hid hm
          have HA := hid hall
          have hbd := digs_bd p k hall
          clear hm hall
          by_cases hlt : k < p.length
          · have hlt' : (k : Int) < p.length := by omega
            have HS := hid (digs_step p k (by omega))
            have hgd : p.getD k 0 = p[k] := by rw [List.getD_eq_getElem?_getD, List.getElem?_eq_getElem hlt]; rfl
            rw [hgd] at HS
            generalize hD : digs p k = D at hbd HS
            have HD := hid hD
            have HG := hid hgd
            clear hD hgd
            by_cases hd : isDg p[k] = true
            · have h0 : (48 : Int) ≤ (((bs p)[k]'(by rw [bs_size]; exact hlt)).toNat : Int) := by show (48 : Int) ≤ (p[k].toNat : Int); unfold isDg at hd; simp at hd; omega
              have h1 : (((bs p)[k]'(by rw [bs_size]; exact hlt)).toNat : Int) ≤ 57 := by show (p[k].toNat : Int) ≤ 57; unfold isDg at hd; simp at hd; omega
              have HDG := hid hd
              clear hd
              go_wp2
              go_roundg (3 - (k + 1))
              case measure => have := HM.out; omega
              case rel =>
                refine ⟨k + 1, rfl, by omega, by go_num, ?_, fun i hi => ?_, rfl⟩
                · rw [HS.out]; unfold dgv; rfl
                · rcases Nat.lt_or_ge i k with h | h
                  · exact HA.out i h
                  · have : i = k := by omega
                    subst this; rw [HG.out]; exact HDG.out
            · have hd' : isDg p[k] = false := by simpa using hd
              have HI := hid (numI_bad HST.out k hlt hd')
              by_cases h0 : (48 : Int) ≤ (((bs p)[k]'(by rw [bs_size]; exact hlt)).toNat : Int)
              · have h1 : ¬ (((bs p)[k]'(by rw [bs_size]; exact hlt)).toNat : Int) ≤ 57 := by
                  have h0' : (48 : Int) ≤ (p[k].toNat : Int) := h0
                  show ¬ (p[k].toNat : Int) ≤ 57; unfold isDg at hd'; simp at hd'; omega
                clear hd hd'
                go_wp2
                go_ret
                exact ⟨ret_int HI.out.symm, rfl⟩
              · clear hd hd'
                go_wp2
                go_ret
                exact ⟨ret_int HI.out.symm, rfl⟩
          · obtain rfl : k = p.length := by omega
            have HI := hid (numI_digs HL.out HH.out HA.out)
            go_wp2
            go_ret
            exact ⟨ret_int HI.out.symm, rfl⟩
    · have HI := hid (numI_len hl)
      have hI : (decide ((1 : Int) ≤ (p.length : Int)) && decide ((p.length : Int) ≤ 2)) = false := by
        rw [Bool.and_eq_false_iff, decide_eq_false_iff_not, decide_eq_false_iff_not]; omega
      clear hl hst
      go_enter Tryz.func90, Tryz.ntmps90
      go_wp2_with (go_at_call 83; refine (l6In_any _ _ _ _).mono ?_; rintro e w' ⟨rfl, rfl⟩; rw [hI])
      go_ret
      exact ⟨ret_int HI.out.symm, rfl⟩
end Go.Proofs.YtoleonldkifcbaaGreatDoor
namespace Go.Proofs.YtoleonldkifcbaaGreatDoor
open Go.RowKit

theorem numI_neg (p : List UInt8) : (0 ≤ numI p ↔ numW p = some (numI p)) ∧ (numI p < 0 → numW p = none) := by
  unfold numI
  cases h : numW p with
  | none => simp
  | some n =>
    have := numW_ok h
    unfold nOk at this
    simp at this
    simp; omega
/-- The first and the last of some words. -/
def endsW (L : List (List UInt8)) : Option (Int × Int) := if L.length ≤ 2 ∧ 0 ≤ numI (L.headD []) ∧ 0 ≤ numI (L.getLastD []) then some (numI (L.headD []), numI (L.getLastD [])) else none
theorem partW_ends (p : List UInt8) : partW p = endsW (cutB 58 p) := by
  unfold partW endsW
  split
  · rename_i a heq
    rw [heq]
    have h := numI_neg a
    by_cases h0 : 0 ≤ numI a
    · simp [h0, h.1.1 h0]
    · simp [h0, h.2 (by omega)]
  · rename_i a b heq
    rw [heq]
    have ha := numI_neg a
    have hb := numI_neg b
    by_cases h0 : 0 ≤ numI a
    · by_cases h1 : 0 ≤ numI b
      · simp [h0, h1, ha.1.1 h0, hb.1.1 h1]
      · simp [h1, ha.1.1 h0, hb.2 (by omega)]
    · simp [h0, ha.2 (by omega)]
  · rename_i h1 h2
    rw [if_neg]
    intro h
    have := cutB_pos 58 p
    match hL : cutB 58 p with
    | [] => rw [hL] at this; simp at this
    | [a] => exact h1 a hL
    | [a, b] => exact h2 a b hL
    | _ :: _ :: _ :: _ => rw [hL] at h; simp at h
theorem partsW_append (l : List (List UInt8)) (p : List UInt8) : partsW (l ++ [p]) = (partsW l).bind fun D => (partW p).map fun s => D ++ [s] := by
  induction l with
  | nil => simp [partsW]; cases partW p <;> rfl
  | cons q l ih =>
    rw [List.cons_append, partsW, ih, partsW]
    cases partW q with
    | none => rfl
    | some s =>
      cases partsW l with
      | none => rfl
      | some D => cases partW p <;> rfl
theorem partsW_none {L : List (List UInt8)} {k : Nat} (hk : k < L.length) (h : partW L[k] = none) : partsW L = none := by
  induction L generalizing k with
  | nil => simp at hk
  | cons q l ih =>
    unfold partsW
    cases k with
    | zero => have : partW q = none := h
              rw [this]; rfl
    | succ k =>
      have := ih (k := k) (by simpa using hk) (by simpa using h)
      rw [this]
      cases partW q <;> rfl

theorem l1Cut_strs (s : List UInt8) (c : Int) (u : UInt8) (hc : c = u.toNat) (w : World) (hs : s.length + 1 ≤ bigN) :
    Calls Tryz.prog 29 #[.string (bs s), .int .u8 c] w fun e w' => ∃ a cap, e = .returned (.slice a (cutB u s).length cap) ∧ StrsAt 0 w' (.slice a (cutB u s).length cap) (cutB u s) ∧ Kept [] w w' := by
  have h := l1Cut_any (bs s) c u hc w (by rw [bs_size]; omega)
  rw [bs_toList] at h
  refine h.mono ?_
  rintro e w' ⟨v, rfl, hown, hK⟩
  have hlen := cutB_len u s
  have hS := strs_own hown (by omega) (fun x hx => Nat.le_trans (cutB_part u s x hx) (by omega))
  obtain ⟨a, cap, rfl⟩ := hS.form
  exact ⟨a, cap, rfl, hS, hK⟩

theorem own_block {w : World} {base g n m cap : Nat} {e : TypeId} {size : Nat} {xs : List Value} (h : w.ownsRow base e size (.slice (some ⟨g, 0, none⟩) m cap) n xs) : ∃ cur, w.heap[g]? = some (.cells cur e (0, 0)) := by
  rcases h.2 with ⟨hv, -⟩ | ⟨g', cap', cur, hv, -, hh, -⟩
  · cases hv
  · injection hv with e1 e2 e3; injection e1 with e1; injection e1 with e1; subst e1; exact ⟨cur, hh⟩
/-- Splitting, with the block in which the parts lie. -/
theorem l1Cut_blk (s : List UInt8) (c : Int) (u : UInt8) (hc : c = u.toNat) (w : World) (hs : s.length + 1 ≤ bigN) :
    Calls Tryz.prog 29 #[.string (bs s), .int .u8 c] w fun e w' => ∃ g cap C, e = .returned (.slice (some ⟨g, 0, none⟩) (cutB u s).length cap) ∧ w'.heap[g]? = some (.cells C 9 (0, 0)) ∧ (cutB u s).length ≤ cap ∧
      (∀ j (h : j < (cutB u s).length), C[j]? = some (.string (bs (cutB u s)[j]))) ∧ Kept [] w w' ∧ w.heap.size ≤ g := by
  have h := l1Cut_any (bs s) c u hc w (by rw [bs_size]; omega)
  rw [bs_toList] at h
  refine h.mono ?_
  rintro e w' ⟨v, rfl, hown, hK⟩
  have hpos := cutB_pos u s
  obtain ⟨g, cap, rfl, hg, hh, hcp, -, -⟩ := own_open hown hpos
  obtain ⟨cur, hb⟩ := own_block hown
  obtain ⟨g', cap', hv, -, -, hcl⟩ := own_strs hown hpos
  injection hv with e1 e2 e3; injection e1 with e1; injection e1 with e1; subst e1
  refine ⟨g, cap, cur, rfl, hb, hcp, fun j hj => ?_, hK, hg⟩
  rw [← cell_of_block hb]; exact hcl j hj

set_option maxRecDepth 100000 in
set_option maxHeartbeats 4000000 in
theorem sSetParse_any (s : List UInt8) (w : World) (hs : s.length + 1 ≤ bigN) :
    Calls Tryz.prog 71 #[.string (bs s)] w (SetRes (setS s) w) := by
  have hlenc := cutB_len 44 s
  have hpart := cutB_part 44 s
  have hpos := cutB_pos 44 s
  have HSS : Hid (setS s = if (cutB 44 s).length ≤ 6 then partsW (cutB 44 s) else none) := rfl
  have HCT := hid (fun W => l1Cut_blk s 44 44 rfl W hs)
  generalize cutB 44 s = L at hlenc hpart hpos HSS HCT
  have HPA := hid hpart
  have HLC := hid hlenc
  have HS := hid hs
  clear hpart hlenc hs
  have hl63 : L.length ≤ 2 ^ 63 - 1 := by have h1 := HLC.out; have h2 := HS.out; have h3 := bigN_le; unfold maxLen at h3; omega
  go_enter Tryz.func71, Tryz.ntmps71
  go_wp2_with fail
  refine (HCT.out _).mono ?_
  rintro e w1 ⟨b, cap, C, rfl, hB1, hcp, hC, hK, -⟩
  have HC := hid hC
  have HK := hid (((Kept.refl [] w).alloc _).trans hK)
  have HOWN := hid (own_kept (own_low (World.ownsRow_made w #[] 0 (e := 85) (size := 2) (base := w.heap.size) (Nat.le_refl _) (Nat.zero_le _) rfl) (Nat.le_refl _)) hK (by simp))
  have HB1 := hid hB1
  clear hC hK hB1
  go_wp2
  go_loopg [4, 6] L.length (fun m v i wr => ∃ (k g cap2 : Nat) (D : List (Int × Int)), m = L.length - k ∧ k ≤ L.length ∧ i = .int .i64 k ∧ D.length = k ∧ v = .slice (some ⟨g, 0, none⟩) D.length cap2 ∧ partsW (L.take k) = some D ∧
    wr.ownsRow w.heap.size 85 2 (.slice (some ⟨g, 0, none⟩) D.length cap2) D.length (D.flatMap scs) ∧ Kept [] w wr ∧ wr.heap[b]? = some (.cells C 9 (0, 0)))
  case atStart =>
    refine ⟨0, w.heap.size, 0, [], rfl, Nat.zero_le _, rfl, rfl, rfl, rfl, ?_, HK.out, HB1.out⟩
    have := HOWN.out
    simpa using this
  case round =>
    obtain ⟨k, g, cap2, D, hm, hk, rfl, hDk, rfl, hpw, hown, hKw, hK1⟩ := hrel
    have HM := hid hm
    have HPW := hid hpw
    have HO := hid hown
    have HKw := hid hKw
    have HK1 := hid hK1
    have HDK := hid hDk
    clear hm hpw hown hKw hK1 hDk
    by_cases hlt : k < L.length
    · have i1 : (k : Int) < L.length := by omega
      have i2 : k < cap := by omega
      have hc : wr.cell? ⟨b, k, none⟩ = some (.string (bs L[k])) := by rw [cell_of_block HK1.out]; exact HC.out k hlt
      have hpl := HPA.out L[k] (List.getElem_mem _)
      have HCT2 := hid (fun W => l1Cut_blk L[k] 58 58 rfl W (by have := HS.out; omega))
      have hpe := partW_ends L[k]
      have hlen2 := cutB_len 58 L[k]
      have hpart2 := cutB_part 58 L[k]
      have hpos2 := cutB_pos 58 L[k]
      generalize cutB 58 L[k] = E at HCT2 hpe hlen2 hpart2 hpos2
      have HPE := hid hpe
      have HP2 := hid hpart2
      have HL2 := hid hlen2
      clear hpe hpart2 hlen2 hpl
      go_wp2_with fail
      refine (HCT2.out _).mono ?_
      rintro e w2 ⟨b2, cap3, C2, rfl, hB2, hcp2, hC2, hK2, -⟩
      have c0 : w2.cell? ⟨b2, 0, none⟩ = some (.string (bs E[0])) := by rw [cell_of_block hB2]; exact hC2 0 hpos2
      obtain ⟨q, hq⟩ : ∃ q : Nat, E.length = q + 1 := ⟨E.length - 1, by omega⟩
      have hqE : q < E.length := by omega
      have c1 : w2.cell? ⟨b2, q, none⟩ = some (.string (bs E[q])) := by rw [cell_of_block hB2]; exact hC2 q hqE
      have HQ := hid hq
      have HO2 := hid (own_kept HO.out hK2 (by simp))
      have HKw2 := hid (HKw.out.trans hK2)
      have HK12 := hid (hK2.same HK1.out (by simp))
      have j1 : (0 : Int) < E.length := by omega
      have j2 : 0 < cap3 := by omega
      have v1 : IntKind.i64.wrap ((E.length : Int) - 1) = (q : Int) := by rw [wraps_i64_31 _ (by omega) (by have h1 := HL2.out; have h2 := HPA.out L[k] (List.getElem_mem _); have h3 := HS.out; unfold bigN at h3; omega)]; omega
      have j4 : (q : Int) < E.length := by omega
      have j6 : q < cap3 := by omega
      clear hq
      have HNL := hid (fun x W (hx : x ∈ E) => l3Number_any x W (by have := HP2.out x hx; have := HPA.out L[k] (List.getElem_mem _); have := HS.out; omega))
      clear hB2 hC2 hK2 HO HKw HK1
      go_wp2
      have HN0 := hid (fun W => HNL.out E[0] W (List.getElem_mem _))
      have HNq := hid (fun W => HNL.out E[q] W (List.getElem_mem _))
      have HEW : Hid (endsW E = if E.length ≤ 2 ∧ (0 : Int) ≤ numI E[0] ∧ (0 : Int) ≤ numI E[q] then some (numI E[0], numI E[q]) else none) := by
        show _ = _
        try simp only [Int.natCast_zero]
        have e0 : E.headD [] = E[0] := by rw [List.headD_eq_head?_getD, List.head?_eq_getElem?, List.getElem?_eq_getElem hpos2]; rfl
        have eq : E.getLastD [] = E[q] := by
          rw [List.getLastD_eq_getLast?, List.getLast?_eq_getElem?, show E.length - 1 = q by have := HQ.out; omega, List.getElem?_eq_getElem hqE]; rfl
        unfold endsW; rw [e0, eq]
      have HPW2 := hid (fun s (h : partW L[k] = some s) => show partsW (L.take (k + 1)) = some (D ++ [s]) by
        rw [List.take_succ_eq_append_getElem hlt, partsW_append, HPW.out, h]; rfl)
      have HPN := hid (fun (h : partW L[k] = none) => show setS s = none by
        rw [HSS.out, partsW_none hlt h]; split <;> rfl)
      rw [HPE.out, HEW.out] at HPW2 HPN
      have hDb : D.length + 1 ≤ bigN := by have := HDK.out; have := HLC.out; have := HS.out; omega
      obtain ⟨x0, hx0⟩ : ∃ x, E[0] = x := ⟨_, rfl⟩
      obtain ⟨xq, hxq⟩ : ∃ x, E[q] = x := ⟨_, rfl⟩
      rw [hx0] at c0 HN0 HPW2 HPN
      rw [hxq] at c1 HNq HPW2 HPN
      obtain ⟨n0, hn0⟩ : ∃ x, numI x0 = x := ⟨_, rfl⟩
      obtain ⟨nq, hnq⟩ : ∃ x, numI xq = x := ⟨_, rfl⟩
      rw [hn0] at HN0 HPW2 HPN
      rw [hnq] at HNq HPW2 HPN
      clear hx0 hxq hn0 hnq HNL HEW hqE
      have CK := hid (fun W (h : Kept [] w2 W) => (show W.cell? ⟨b2, 0, none⟩ = some (.string (bs x0)) ∧ W.cell? ⟨b2, q, none⟩ = some (.string (bs xq)) from ⟨h.cell_some c0 (by simp), h.cell_some c1 (by simp)⟩))
      go_cut [8] from 12 to 52 (fun p W => p = .pointer (some ⟨w2.heap.size, 0, none⟩) ∧ W.heap[w2.heap.size]? = some (.cells #[.int .i64 n0, .int .i64 nq] 85 (0, 0)) ∧ Kept [] w2 W)
      case first =>
        go_region_held3 (fun w' => w'.cell? ⟨b2, 0, none⟩ = some (.string (bs x0)) ∧ w'.cell? ⟨b2, q, none⟩ = some (.string (bs xq)))
          (first
            | go_keep
            | exact CK.out _ (by repeat' with_reducible first | exact Kept.refl _ _ | refine Kept.setCell ?_ _ _ (by simp) | refine Kept.drew ?_ | refine Kept.alloc ?_ _))
          (first
            | (go_at_call 90; with_reducible refine (HN0.out _).mono ?_; rintro e w' ⟨rfl, rfl⟩)
            | (go_at_call 90; with_reducible refine (HNq.out _).mono ?_; rintro e w' ⟨rfl, rfl⟩))
        all_goals
          go_wp2
          go_meet
          refine ⟨rfl, by first | exact new_block _ _ | exact new_block w2 _ | rfl, ?_⟩
          repeat' with_reducible first | exact Kept.refl _ _ | refine Kept.drew ?_ | refine Kept.alloc ?_ _ | refine Kept.setCell ?_ _ _ (by simp)
      case rest =>
        obtain ⟨rfl, hB, hKW⟩ := hcut
        clear c0 c1 CK
        have hb0 := cell_of_block hB 0
        have hb1 := cell_of_block hB 1
        simp at hb0 hb1
        have HKW := hid (HKw2.out.trans hKW)
        have HK1W := hid (hKW.same HK12.out (by simp))
        have HOW := hid (own_kept HO2.out hKW (by simp))
        clear hB hKW
        have K : Hid (E.length ≤ 2 ∧ 0 ≤ n0 ∧ 0 ≤ nq ∨ ¬ (E.length ≤ 2 ∧ 0 ≤ n0 ∧ 0 ≤ nq)) := Classical.em _
        rcases K.out with hg | hg
        · have hp := HPW2.out (n0, nq) (by rw [if_pos hg])
          have HP := hid hp
          have q1 : ¬ (2 : Int) < E.length := by omega
          have q2 : ¬ n0 < 0 := by omega
          have q3 : ¬ nq < 0 := by omega
          clear hg hp
          go_wp2_with (at_builtin; refine append_gen 23 85 _ 2 16 Tryz.underlying23 inf_span rfl (by decide) (by decide) rfl (.tmp 49) (.tmp 51) rfl w.heap.size _ D.length (D.flatMap scs) rfl (HOW.out.alloc _) wc.heap.size 1 1 (scs (n0, nq)) rfl #[.int .i64 n0, .int .i64 nq] (0, 0) (new_block _ _) rfl rfl (by simp [scs, Value.oneCell']) (by omega) (by omega) (by have := HKW.out.size; simp; omega) ?_; intro g2 cap2 w3 hown3 hgrow3)
          go_roundg (L.length - (k + 1))
          case measure => have := HM.out; omega
          case rel =>
            refine ⟨k + 1, g2, cap2, D ++ [(n0, nq)], rfl, by omega, by go_num, by rw [List.length_append, HDK.out]; rfl, by simp, HP.out, ?_, ?_, ?_⟩
            · have := own_more hown3; simpa using this
            · exact (HKW.out.alloc _).own (HOW.out.alloc _) hgrow3 (Nat.le_refl _)
            · rw [hgrow3.block b (by have := lt_of_block HK1W.out; simp; omega) (fun e => ?_)]
              · exact alloc_block HK1W.out _
              · have e : (Value.slice (some ⟨g, 0, none⟩) D.length cap2).ownBlock = some b := e.symm
                injection e with e
                obtain ⟨cur, hcur⟩ := own_block HOW.out
                have e : g = b := e
                subst e
                have h5 := hcur.symm.trans HK1W.out
                injection h5 with h5; injection h5 with _ h6; revert h6; decide
        · have hp := HPN.out (by rw [if_neg hg])
          have HP := hid hp
          clear hp
          refine gen_world (fun W => W.cell? ⟨w2.heap.size, 0, none⟩ = some (.int .i64 n0) ∧ W.cell? ⟨w2.heap.size, 1, none⟩ = some (.int .i64 nq) ∧ Kept [] w W) ⟨hb0, hb1, HKW.out⟩ ?_
          clear hb0 hb1 HKW HK1W HOW
          rintro W ⟨hb0, hb1, hKW⟩
          have HKW := hid hKW
          clear hKW
          have KK : Hid ((2 : Int) < E.length ∨ ¬ (2 : Int) < E.length ∧ n0 < 0 ∨ ¬ (2 : Int) < E.length ∧ ¬ n0 < 0 ∧ nq < 0) := by show _ ∨ _; omega
          clear hg
          rcases KK.out with q1 | ⟨q1, q2⟩ | ⟨q1, q2, q3⟩
          all_goals
            go_wp2
            refine bodyPost_ret (v := .tuple #[.slice (some ⟨W.heap.size, 0, none⟩) 0 0, .bool false]) (by simp [results, Tryz.results71, go_sem]) rfl ⟨_, by rw [HP.out]; rfl, HKW.out.alloc _, ?_⟩
            rw [HP.out]
            have := World.ownsRow_made W #[] 0 (e := 85) (size := 2) (base := w.heap.size) HKW.out.size (Nat.zero_le _) rfl
            simpa using this
    · obtain rfl : k = L.length := by omega
      have hpw : partsW L = some D := by have := HPW.out; rwa [List.take_length] at this
      obtain ⟨hdl, hdm⟩ := partsW_ok hpw
      have hok : setOk D = decide (D.length ≤ 6) := by
        unfold setOk
        have : (D.all fun s => nOk s.1 && nOk s.2) = true := by rw [List.all_eq_true]; intro s hs; rw [(hdm s hs).1, (hdm s hs).2]; rfl
        rw [this, decide_eq_true (show 1 ≤ D.length by omega)]; rfl
      have HR : Hid (setS s = if D.length ≤ 6 then some D else none) := by show _ = _; rw [HSS.out, hpw, hdl]
      have HOK := hid hok
      have hDb : D.length ≤ bigN := by have := HLC.out; have := HS.out; omega
      clear hok hpw hdm hdl
      have HSV := hid (fun W (h : Kept [] wr W) => sSetValid_any w.heap.size (.slice (some ⟨g, 0, none⟩) D.length cap2) D W ((own_spans HO.out hDb).kept0 h))
      go_wp2_with fail
      refine (HSV.out _ (Kept.refl _ _)).mono ?_
      rintro e w2 ⟨rfl, hw⟩
      subst hw
      rw [HOK.out]
      by_cases h6 : D.length ≤ 6
      · rw [decide_eq_true h6]
        have HR2 : Hid (setS s = some D) := by show _ = _; rw [HR.out, if_pos h6]
        go_wp2
        refine bodyPost_ret (v := .tuple #[.slice (some ⟨g, 0, none⟩) D.length cap2, .bool true]) (by simp [results, Tryz.results71, go_sem]) rfl ⟨_, by rw [HR2.out]; rfl, HKw.out, ?_⟩
        rw [HR2.out]; exact HO.out
      · rw [decide_eq_false h6]
        have HP : Hid (setS s = none) := by show _ = _; rw [HR.out, if_neg h6]
        go_wp2
        refine bodyPost_ret (v := .tuple #[.slice (some ⟨w2.heap.size, 0, none⟩) 0 0, .bool false]) (by simp [results, Tryz.results71, go_sem]) rfl ⟨_, by rw [HP.out]; rfl, HKw.out.alloc _, ?_⟩
        rw [HP.out]
        have := World.ownsRow_made w2 #[] 0 (e := 85) (size := 2) (base := w.heap.size) HKw.out.size (Nat.zero_le _) rfl
        simpa using this
end Go.Proofs.YtoleonldkifcbaaGreatDoor
namespace Go.Proofs.YtoleonldkifcbaaGreatDoor
open Go.RowKit

/-- The text of the first k spans. -/
def setTk (l : List (Int × Int)) (k : Nat) : List UInt8 := joinT ((l.take k).map spanT)
theorem joinT_snoc (L : List (List UInt8)) (p : List UInt8) : joinT (L ++ [p]) = if L = [] then p else joinT L ++ 44 :: p := by
  induction L with
  | nil => rfl
  | cons q l ih =>
    cases l with
    | nil => rfl
    | cons r t =>
      have := ih
      rw [if_neg (by simp)] at this
      rw [if_neg (by simp), List.cons_append, List.cons_append, joinT, ← List.cons_append, this, joinT]
      simp
theorem setTk_step (l : List (Int × Int)) (k : Nat) (h : k < l.length) : setTk l (k + 1) = if k = 0 then spanT l[k] else setTk l k ++ 44 :: spanT l[k] := by
  unfold setTk
  rw [List.take_succ_eq_append_getElem h, List.map_append, List.map_singleton, joinT_snoc]
  by_cases h0 : k = 0
  · subst h0; simp
  · have : (l.take k).map spanT ≠ [] := fun e => by
      have := congrArg List.length e
      rw [List.length_map, List.length_take, List.length_nil] at this; omega
    rw [if_neg this, if_neg h0]
theorem setTk_len (l : List (Int × Int)) (k : Nat) (hk : k ≤ 6) (h : ∀ s ∈ l, nOk s.1 = true ∧ nOk s.2 = true) : (setTk l k).length ≤ 36 := by
  have := joinT_len ((l.take k).map spanT) 5 fun p hp => by
    obtain ⟨s, hs, rfl⟩ := List.mem_map.1 hp
    have := h s (List.mem_of_mem_take hs)
    exact (spanT_ok this.1 this.2).2.2.2
  rw [List.length_map, List.length_take] at this
  unfold setTk
  have h2 : min k l.length ≤ 6 := by omega
  exact Nat.le_trans this (Nat.mul_le_mul_right 6 h2)
theorem add_bs (a b : List UInt8) : bs a ++ bs b = bs (a ++ b) := by
  rw [← toList_inj]; simp
theorem add_c (a : List UInt8) (c : UInt8) : bs a ++ (⟨#[c]⟩ : ByteArray) = bs (a ++ [c]) := by
  rw [← toList_inj]; simp

set_option maxRecDepth 100000 in
set_option maxHeartbeats 4000000 in
theorem sSetText_any (lo : Nat) (v : Value) (l : List (Int × Int)) (w : World) (hu : SpansAt lo w v l) :
    Calls Tryz.prog 43 #[v] w fun e w' => e = .returned (.string (bs (setT l))) ∧ Kept [] w w' := by
  have HU := hid hu
  obtain ⟨a, cap, b, off, rfl, hl, hcp, ha, hc⟩ := hu
  have HC := hid hc
  have HA := hid ha
  have hl63 : l.length ≤ 2 ^ 63 - 1 := by have := Nat.le_trans hl bigN_le; unfold maxLen at this; exact this
  clear hc ha hl
  by_cases hok : setOk l = true
  · have hmem := setOk_mem hok
    have HM := hid hmem.1
    have hlen1 := hmem.2.1
    have hlen6 := hmem.2.2
    have HT : Hid (setT l = setTk l l.length) := by show _ = _; unfold setT setTk; rw [if_pos hok, List.take_length]
    obtain ⟨rfl, -, hbw⟩ := HA.out (by omega)
    have HV := hid (fun W (hW : Kept [] w W) => by have := sSetValid_any lo _ l W (HU.out.kept0 hW); rw [hok] at this; exact this)
    clear hmem hok
    go_enter Tryz.func43, Tryz.ntmps43
    go_wp2
    go_loopg [3, 4] l.length (fun m x i wr => ∃ (k : Nat) (t : List UInt8), m = l.length - k ∧ k ≤ l.length ∧ i = .int .i64 k ∧ x = .string (bs t) ∧ t = setTk l k ∧ Kept [] w wr)
    case atStart => exact ⟨0, [], rfl, Nat.zero_le _, rfl, rfl, rfl, Kept.refl _ _⟩
    case round =>
      obtain ⟨k, t, hm, hk, rfl, rfl, ht, hK⟩ := hrel
      have HMS := hid hm
      have HTK := hid ht
      have HK := hid hK
      have htl : t.length ≤ 36 := by rw [ht]; exact setTk_len l k (by omega) HM.out
      clear hm hK ht
      by_cases hlt : k < l.length
      · obtain ⟨c0, c1⟩ := HC.out k hlt
        have c0w := c0
        have c1w := c1
        have c0 := HK.out.cell_some c0 (by simp)
        have c1 := HK.out.cell_some c1 (by simp)
        have i1 : (k : Int) < l.length := by omega
        have i4 : k < cap := by omega
        have hn1 := (HM.out l[k] (List.getElem_mem _)).1
        have hn2 := (HM.out l[k] (List.getElem_mem _)).2
        have hb2 := (numT_ok hn1).2.2.2.2.1
        have hb3 := (numT_ok hn2).2.2.2.2.1
        by_cases hk0 : k = 0
        · have hk1 : ¬ (0 : Int) < k := by omega
          have s2 : (t.length : Int) + (numT l[k].1).length ≤ 9223372036854775807 := by omega
          have HPRE : Hid (∀ x : List UInt8, t ++ x = if k = 0 then x else setTk l k ++ 44 :: x) := by
            intro x; rw [if_pos hk0, HTK.out, hk0]; rfl
          clear hk0
          go_wp2_with (go_at_call 62; refine (HV.out _ HK.out).mono ?_; rintro e w' ⟨rfl, hw⟩; rw [hw])
          refine (l3Word_any l[k].1 _ hn1).mono ?_
          rintro e w2 ⟨rfl, hK2⟩
          have HK2 := hid (HK.out.trans hK2)
          have c0 := HK2.out.cell_some c0w (by simp)
          have c1 := HK2.out.cell_some c1w (by simp)
          clear hK2
          go_wp2
          go_quiet (fail)
          by_cases heq : l[k].2 = l[k].1
          · have hne : (l[k].2 != l[k].1) = false := by simp [heq]
            have HSPT : Hid (spanT l[k] = numT l[k].1) := by show _ = _; unfold spanT; rw [if_pos heq, List.append_nil]
            clear heq
            go_wp2
            go_roundg (l.length - (k + 1))
            case measure => have := HMS.out; omega
            case rel => exact ⟨k + 1, t ++ numT l[k].1, rfl, by omega, by go_num, by simp only [add_bs], by rw [setTk_step l k hlt, HSPT.out]; exact HPRE.out _, HK2.out.drewN _⟩
          · have hne : (l[k].2 != l[k].1) = true := by simp [heq]
            have HSPT : Hid (spanT l[k] = numT l[k].1 ++ 58 :: numT l[k].2) := by show _ = _; unfold spanT; rw [if_neg heq]
            clear heq
            go_wp2_with fail
            refine (l3Word_any l[k].2 _ hn2).mono ?_
            rintro e w3 ⟨rfl, hK3⟩
            have HK3 := hid ((HK2.out.drewN _).trans hK3)
            clear hK3
            go_wp2
            go_roundg (l.length - (k + 1))
            case measure => have := HMS.out; omega
            case rel => exact ⟨k + 1, t ++ (numT l[k].1 ++ 58 :: numT l[k].2), rfl, by omega, by go_num, by simp only [add_bs, add_c, List.append_assoc, List.cons_append, List.nil_append], by rw [setTk_step l k hlt, HSPT.out]; exact HPRE.out _, HK3.out⟩
        · have hk1 : (0 : Int) < k := by omega
          have s1 : t.length + 1 ≤ 9223372036854775807 := by omega
          have HPRE : Hid (∀ x : List UInt8, (t ++ [44]) ++ x = if k = 0 then x else setTk l k ++ 44 :: x) := by
            intro x; rw [if_neg hk0, HTK.out]; simp
          clear hk0
          go_wp2_with (go_at_call 62; refine (HV.out _ HK.out).mono ?_; rintro e w' ⟨rfl, hw⟩; rw [hw])
          refine (l3Word_any l[k].1 _ hn1).mono ?_
          rintro e w2 ⟨rfl, hK2⟩
          have HK2 := hid (HK.out.trans hK2)
          have c0 := HK2.out.cell_some c0w (by simp)
          have c1 := HK2.out.cell_some c1w (by simp)
          clear hK2
          go_wp2
          go_quiet (fail)
          by_cases heq : l[k].2 = l[k].1
          · have hne : (l[k].2 != l[k].1) = false := by simp [heq]
            have HSPT : Hid (spanT l[k] = numT l[k].1) := by show _ = _; unfold spanT; rw [if_pos heq, List.append_nil]
            clear heq
            go_wp2
            go_roundg (l.length - (k + 1))
            case measure => have := HMS.out; omega
            case rel => exact ⟨k + 1, (t ++ [44]) ++ numT l[k].1, rfl, by omega, by go_num, by simp only [add_bs, add_c, List.append_assoc, List.cons_append, List.nil_append], by rw [setTk_step l k hlt, HSPT.out]; exact HPRE.out _, HK2.out.drewN _⟩
          · have hne : (l[k].2 != l[k].1) = true := by simp [heq]
            have HSPT : Hid (spanT l[k] = numT l[k].1 ++ 58 :: numT l[k].2) := by show _ = _; unfold spanT; rw [if_neg heq]
            clear heq
            go_wp2_with fail
            refine (l3Word_any l[k].2 _ hn2).mono ?_
            rintro e w3 ⟨rfl, hK3⟩
            have HK3 := hid ((HK2.out.drewN _).trans hK3)
            clear hK3
            go_wp2
            go_roundg (l.length - (k + 1))
            case measure => have := HMS.out; omega
            case rel => exact ⟨k + 1, (t ++ [44]) ++ (numT l[k].1 ++ 58 :: numT l[k].2), rfl, by omega, by go_num, by simp only [add_bs, add_c, List.append_assoc, List.cons_append, List.nil_append], by rw [setTk_step l k hlt, HSPT.out]; exact HPRE.out _, HK3.out⟩
      · obtain rfl : k = l.length := by omega
        have HF : Hid (t = setT l) := by show _ = _; rw [HT.out]; exact HTK.out
        go_wp2_with (go_at_call 62; refine (HV.out _ HK.out).mono ?_; rintro e w' ⟨rfl, hw⟩; rw [hw])
        go_ret
        exact ⟨ret_str (by rw [HF.out]), HK.out⟩
  · have hf : setOk l = false := by simpa using hok
    have HT : Hid (setT l = []) := by show _ = _; unfold setT; rw [if_neg hok]
    have HV := hid (by have := sSetValid_any lo _ l w HU.out; rw [hf] at this; exact this)
    clear hok hf
    go_enter Tryz.func43, Tryz.ntmps43
    go_wp2
    go_loopg [3, 4] l.length (fun m x i wr => x = .string ⟨#[]⟩ ∧ i = .int .i64 0 ∧ wr = w)
    case atStart => exact ⟨rfl, rfl, rfl⟩
    case round =>
      obtain ⟨rfl, rfl, rfl⟩ := hrel
      by_cases hlt : 0 < l.length
      · have hlt' : (0 : Int) < l.length := by omega
        go_wp2_with (go_at_call 62; refine HV.out.mono ?_; rintro e w' ⟨rfl, hw⟩; rw [hw])
        go_ret
        exact ⟨ret_str (by rw [HT.out]; rfl), Kept.refl _ _⟩
      · have hlt' : ¬ (0 : Int) < l.length := by omega
        go_wp2_with (go_at_call 62; refine HV.out.mono ?_; rintro e w' ⟨rfl, hw⟩; rw [hw])
        go_ret
        exact ⟨ret_str (by rw [HT.out]; rfl), Kept.refl _ _⟩
end Go.Proofs.YtoleonldkifcbaaGreatDoor
