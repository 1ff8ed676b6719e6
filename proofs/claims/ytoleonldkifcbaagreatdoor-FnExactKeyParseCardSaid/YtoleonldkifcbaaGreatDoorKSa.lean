/- The walks of sets: validity, the text of a set is read (impl). -/
import Derived.Test.YtoleonldkifcbaaGreatDoorKWa
import Derived.Test.YtoleonldkifcbaaGreatDoorKB
import Derived.Test.YtoleonldkifcbaaGreatDoorKP
import Derived.LoopN
namespace Go.Proofs.YtoleonldkifcbaaGreatDoor
open Go.RowKit

/-- A slice value that holds spans. -/
def SpansAt (lo : Nat) (w : World) (v : Value) (l : List (Int × Int)) : Prop :=
  ∃ a cap b off, v = .slice a l.length cap ∧ l.length ≤ bigN ∧ l.length ≤ cap ∧ (0 < l.length → a = some ⟨b, off, none⟩ ∧ lo ≤ b ∧ b < w.heap.size) ∧
    ∀ j (h : j < l.length), w.cell? ⟨b, off + j * 2, none⟩ = some (.int .i64 l[j].1) ∧ w.cell? ⟨b, off + j * 2 + 1, none⟩ = some (.int .i64 l[j].2)

theorem SpansAt.kept {lo : Nat} {w w' : World} {v : Value} {l : List (Int × Int)} {bs : List Nat} (h : SpansAt lo w v l) (k : Kept bs w w') (hb : ∀ b ∈ bs, b < lo ∨ w.heap.size ≤ b) : SpansAt lo w' v l := by
  obtain ⟨a, cap, b, off, hv, hl, hc, ha, hcl⟩ := h
  refine ⟨a, cap, b, off, hv, hl, hc, fun h0 => ⟨(ha h0).1, (ha h0).2.1, Nat.lt_of_lt_of_le (ha h0).2.2 k.size⟩, fun j hj => ?_⟩
  have h1 := (ha (by omega)).2
  have hn : b ∉ bs := fun e => by rcases hb b e with h2 | h2 <;> omega
  obtain ⟨c0, c1⟩ := hcl j hj
  exact ⟨k.cell_some c0 hn, k.cell_some c1 hn⟩
theorem SpansAt.kept0 {lo : Nat} {w w' : World} {v : Value} {l : List (Int × Int)} (h : SpansAt lo w v l) (k : Kept [] w w') : SpansAt lo w' v l := h.kept k (by simp)
theorem SpansAt.low {lo lo' : Nat} {w : World} {v : Value} {l : List (Int × Int)} (h : SpansAt lo w v l) (hl : lo' ≤ lo) : SpansAt lo' w v l := by
  obtain ⟨a, cap, b, off, hv, h1, h2, ha, hc⟩ := h
  exact ⟨a, cap, b, off, hv, h1, h2, fun h0 => ⟨(ha h0).1, Nat.le_trans hl (ha h0).2.1, (ha h0).2.2⟩, hc⟩
theorem SpansAt.form {lo : Nat} {w : World} {v : Value} {l : List (Int × Int)} (h : SpansAt lo w v l) : ∃ a cap, v = .slice a l.length cap := by
  obtain ⟨a, cap, b, off, hv, -⟩ := h; exact ⟨a, cap, hv⟩
theorem SpansAt.nil {lo : Nat} {w : World} (a : Option Addr) (cap : Nat) : SpansAt lo w (.slice a 0 cap) [] :=
  ⟨a, cap, 0, 0, rfl, Nat.zero_le _, Nat.zero_le _, fun h => absurd h (by simp), fun j hj => absurd hj (by simp)⟩

theorem setNumberValid_any (n : Int) (w : World) : Calls Tryz.prog 74 #[.int .i64 n] w fun e w' => e = .returned (.bool (nOk n)) ∧ w' = w := by
  go_enter Tryz.func74, Tryz.ntmps74
  go_wp2
  all_goals
    go_ret
    simp [nOk, *]
  omega

theorem setOk_def (l : List (Int × Int)) : setOk l = ((l.all fun s => nOk s.1 && nOk s.2) && (decide (1 ≤ l.length) && decide (l.length ≤ 6))) := rfl
theorem setOk_bad {l : List (Int × Int)} {k : Nat} (h : k < l.length) (hb : (nOk l[k].1 && nOk l[k].2) = false) : setOk l = false := by
  unfold setOk
  have : (l.all fun s => nOk s.1 && nOk s.2) = false := by
    rw [← Bool.not_eq_true]; intro e
    have := List.all_eq_true.1 e l[k] (List.getElem_mem _)
    rw [hb] at this; cases this
  rw [this]; rfl
theorem setOk_step {l : List (Int × Int)} {k : Nat} (h : k < l.length) (ha : ((l.take k).all fun s => nOk s.1 && nOk s.2) = true) (h1 : nOk l[k].1 = true) (h2 : nOk l[k].2 = true) : ((l.take (k + 1)).all fun s => nOk s.1 && nOk s.2) = true := by
  rw [List.take_succ_eq_append_getElem h, List.all_append, ha]
  simp [h1, h2]

theorem iSetValid_any (lo : Nat) (v : Value) (l : List (Int × Int)) (w : World) (hu : SpansAt lo w v l) :
    Calls Tryz.prog 56 #[v] w fun e w' => e = .returned (.bool (setOk l)) ∧ Kept [] w w' := by
  obtain ⟨a, cap, b, off, rfl, hl, hcp, ha, hc⟩ := hu
  have HC := hid hc
  have HA := hid ha
  have hl63 : l.length ≤ 2 ^ 63 - 1 := by have := Nat.le_trans hl bigN_le; unfold maxLen at this; exact this
  clear hc ha hl
  by_cases h1 : (l.length : Int) < 1
  · have hf : setOk l = false := by
      rw [setOk_def, decide_eq_false (by omega : ¬ 1 ≤ l.length)]; simp
    have HF := hid hf
    clear hf
    go_enter Tryz.func56, Tryz.ntmps56
    go_wp2
    go_ret
    exact ⟨ret_bool HF.out.symm, Kept.refl _ _⟩
  · by_cases h6 : (6 : Int) < l.length
    · have hf : setOk l = false := by
        rw [setOk_def, decide_eq_false (by omega : ¬ l.length ≤ 6)]; simp
      have HF := hid hf
      clear hf
      go_enter Tryz.func56, Tryz.ntmps56
      go_wp2
      go_ret
      exact ⟨ret_bool HF.out.symm, Kept.refl _ _⟩
    · go_enter Tryz.func56, Tryz.ntmps56
      go_wp2
      go_loopg [15] l.length (fun m i wr => ∃ k : Nat, m = l.length - k ∧ k ≤ l.length ∧ i = .int .i64 k ∧ ((l.take k).all fun s => nOk s.1 && nOk s.2) = true ∧ Kept [] w wr)
      case atStart => exact ⟨0, rfl, Nat.zero_le _, rfl, rfl, Kept.refl _ _⟩
      case round =>
        obtain ⟨k, hm, hk, rfl, hall, hK⟩ := hrel
        have HM := hid hm
        have HL := hid hall
        have HK := hid hK
        clear hm hall hK
        by_cases hlt : k < l.length
        · obtain ⟨rfl, -, hbw⟩ := HA.out (by omega)
          obtain ⟨c0, c1⟩ := HC.out k hlt
          have c0 := HK.out.cell_some c0 (by simp)
          have c1 := HK.out.cell_some c1 (by simp)
          have i1 : (k : Int) < l.length := by omega
          have i3 : (0 : Int) ≤ k := by omega
          have i4 : k < cap := by omega
          by_cases n1 : nOk l[k].1 = true
          · by_cases n2 : nOk l[k].2 = true
            · have hs := setOk_step hlt HL.out n1 n2
              have HS := hid hs
              clear hs
              go_wp2_with (go_at_call 74; refine (setNumberValid_any _ _).mono ?_; rintro e w' ⟨rfl, rfl⟩)
              go_roundg (l.length - (k + 1))
              case measure => have := HM.out; omega
              case rel => exact ⟨k + 1, rfl, by omega, by go_num, HS.out, (HK.out.alloc _)⟩
            · have n2' : nOk l[k].2 = false := by simpa using n2
              have hf := setOk_bad hlt (by rw [n1, n2']; rfl)
              have HF := hid hf
              clear hf n2
              go_wp2_with (go_at_call 74; refine (setNumberValid_any _ _).mono ?_; rintro e w' ⟨rfl, rfl⟩)
              go_ret
              exact ⟨ret_bool HF.out.symm, HK.out.alloc _⟩
          · have n1' : nOk l[k].1 = false := by simpa using n1
            have hf := setOk_bad hlt (by rw [n1']; rfl)
            have HF := hid hf
            clear hf n1
            go_wp2_with (go_at_call 74; refine (setNumberValid_any _ _).mono ?_; rintro e w' ⟨rfl, rfl⟩)
            go_ret
            exact ⟨ret_bool HF.out.symm, HK.out.alloc _⟩
        · obtain rfl : k = l.length := by omega
          have hf : setOk l = true := by
            have := HL.out
            rw [List.take_length] at this
            rw [setOk_def, this, decide_eq_true (by omega : 1 ≤ l.length), decide_eq_true (by omega : l.length ≤ 6)]; rfl
          have HF := hid hf
          clear hf
          go_wp2
          go_ret
          exact ⟨ret_bool HF.out.symm, HK.out⟩

theorem sSetValid_any (lo : Nat) (v : Value) (l : List (Int × Int)) (w : World) (hu : SpansAt lo w v l) :
    Calls Tryz.prog 62 #[v] w fun e w' => e = .returned (.bool (setOk l)) ∧ w' = w := by
  obtain ⟨a, cap, b, off, rfl, hl, hcp, ha, hc⟩ := hu
  have HC := hid hc
  have HA := hid ha
  have hl63 : l.length ≤ 2 ^ 63 - 1 := by have := Nat.le_trans hl bigN_le; unfold maxLen at this; exact this
  clear hc ha hl
  go_enter Tryz.func62, Tryz.ntmps62
  go_wp2
  go_loopg [3] l.length (fun m i wr => ∃ k : Nat, m = l.length - k ∧ k ≤ l.length ∧ i = .int .i64 k ∧ ((l.take k).all fun s => nOk s.1 && nOk s.2) = true ∧ wr = w)
  case atStart => exact ⟨0, rfl, Nat.zero_le _, rfl, rfl, rfl⟩
  case round =>
    obtain ⟨k, hm, hk, rfl, hall, rfl⟩ := hrel
    have HM := hid hm
    have HL := hid hall
    clear hm hall
    by_cases hlt : k < l.length
    · obtain ⟨rfl, -, hbw⟩ := HA.out (by omega)
      obtain ⟨c0, c1⟩ := HC.out k hlt
      have i1 : (k : Int) < l.length := by omega
      have i3 : (0 : Int) ≤ k := by omega
      have i4 : k < cap := by omega
      by_cases n1 : nOk l[k].1 = true
      · have n1b : (decide (0 ≤ l[k].1) && decide (l[k].1 ≤ 99)) = true := n1
        by_cases n2 : nOk l[k].2 = true
        · have n2b : (decide (0 ≤ l[k].2) && decide (l[k].2 ≤ 99)) = true := n2
          have hs := setOk_step hlt HL.out n1 n2
          have HS := hid hs
          clear hs n1 n2
          go_wp2_with (go_at_call 83; refine (l6In_any _ _ _ _).mono ?_; rintro e w' ⟨rfl, rfl⟩; first | rw [n1b] | rw [n2b])
          go_roundg (l.length - (k + 1))
          case measure => have := HM.out; omega
          case rel => exact ⟨k + 1, rfl, by omega, by go_num, HS.out, rfl⟩
        · have n2' : nOk l[k].2 = false := by simpa using n2
          have n2b : (decide (0 ≤ l[k].2) && decide (l[k].2 ≤ 99)) = false := n2'
          have hf := setOk_bad hlt (by rw [n1, n2']; rfl)
          have HF := hid hf
          clear hf n2 n1 n2'
          go_wp2_with (go_at_call 83; refine (l6In_any _ _ _ _).mono ?_; rintro e w' ⟨rfl, rfl⟩; first | rw [n1b] | rw [n2b])
          go_ret
          exact ⟨ret_bool HF.out.symm, rfl⟩
      · have n1' : nOk l[k].1 = false := by simpa using n1
        have n1b : (decide (0 ≤ l[k].1) && decide (l[k].1 ≤ 99)) = false := n1'
        have hf := setOk_bad hlt (by rw [n1']; rfl)
        have HF := hid hf
        clear hf n1 n1'
        go_wp2_with (go_at_call 83; refine (l6In_any _ _ _ _).mono ?_; rintro e w' ⟨rfl, rfl⟩; first | rw [n1b] | rw [n2b])
        go_ret
        exact ⟨ret_bool HF.out.symm, rfl⟩
    · obtain rfl : k = l.length := by omega
      have hf : setOk l = (decide (1 ≤ l.length) && decide (l.length ≤ 6)) := by
        have := HL.out
        rw [List.take_length] at this
        rw [setOk_def, this]; rfl
      have HF := hid hf
      clear hf
      go_wp2_with (go_at_call 83; refine (l6In_any _ _ _ _).mono ?_; rintro e w' ⟨rfl, rfl⟩)
      go_ret
      refine ⟨ret_bool ?_, rfl⟩
      rw [HF.out, Bool.eq_iff_iff]; simp; omega
end Go.Proofs.YtoleonldkifcbaaGreatDoor
namespace Go.Proofs.YtoleonldkifcbaaGreatDoor
open Go.RowKit

/-- The value of the first j digits, at most two. -/
def digs (r : List UInt8) (j : Nat) : Int := if j = 0 then 0 else if j = 1 then dgv (r.getD 0 0) else 10 * dgv (r.getD 0 0) + dgv (r.getD 1 0)
theorem digs_step (r : List UInt8) (j : Nat) (hj : j < 2) : digs r (j + 1) = 10 * digs r j + dgv (r.getD j 0) := by
  match j, hj with
  | 0, _ => simp [digs]
  | 1, _ => simp [digs]
theorem digs_bd (r : List UInt8) (j : Nat) (h : ∀ i, i < j → isDg (r.getD i 0) = true) : 0 ≤ digs r j ∧ digs r j ≤ 99 := by
  unfold digs
  split
  · omega
  · split
    · have := dgv_bd (h 0 (by omega)); omega
    · have := dgv_bd (h 0 (by omega)); have := dgv_bd (h 1 (by omega)); omega
theorem numR_end (r : List UInt8) (j : Nat) (h42 : r.head? ≠ some 42) (h48 : r.head? ≠ some 48) (hj2 : j ≤ 2) (hjl : j ≤ r.length) (hd : ∀ i, i < j → isDg (r.getD i 0) = true)
    (hstop : j = r.length ∨ j = 2 ∨ isDg (r.getD j 0) = false) : numR r = if 0 < j then some (digs r j, r.drop j) else none := by
  match r with
  | [] => have : j = 0 := by simpa using hjl
          subst this; rfl
  | [c] =>
    have c42 : c ≠ 42 := by simpa using h42
    have c48 : c ≠ 48 := by simpa using h48
    have : j = 0 ∨ j = 1 := by simp at hjl; omega
    rcases this with rfl | rfl
    · have : isDg c = false := by simpa using hstop
      simp [numR, c42, this]
    · have : isDg c = true := by simpa using hd 0 (by omega)
      simp [numR, c42, c48, this, digs]
  | c :: d :: t =>
    have c42 : c ≠ 42 := by simpa using h42
    have c48 : c ≠ 48 := by simpa using h48
    have : j = 0 ∨ j = 1 ∨ j = 2 := by omega
    rcases this with rfl | rfl | rfl
    · have : isDg c = false := by simpa using hstop
      simp [numR, c42, this]
    · have h1 : isDg c = true := by simpa using hd 0 (by omega)
      have h2 : isDg d = false := by simpa using hstop
      simp [numR, c42, c48, h1, h2, digs]
    · have h1 : isDg c = true := by simpa using hd 0 (by omega)
      have h2 : isDg d = true := by simpa using hd 1 (by omega)
      simp [numR, c42, c48, h1, h2, digs]

theorem getD_drop (l : List UInt8) (k j : Nat) (h : k + j < l.length) : (l.drop k).getD j 0 = l[k + j] := by
  rw [List.getD_eq_getElem?_getD, List.getElem?_drop, List.getElem?_eq_getElem h]; rfl
theorem dg_sub {c : UInt8} (h0 : (48 : Int) ≤ c.toNat) (h1 : (c.toNat : Int) ≤ 57) : wrap64 (((c.toNat : Int) - 48)) = dgv c := by
  unfold dgv wrap64; omega

/-- What reading a number tells. -/
def NumRes (b : Nat) (s : ByteArray) (t : TypeId) (r : List UInt8) (w : World) (e : Ending) (w' : World) : Prop :=
  ∃ x : Int, ∃ ok : Bool, ∃ j : Nat, e = .returned (.tuple #[.int .i64 x, .bool ok]) ∧ Kept [b] w w' ∧ j ≤ s.size ∧ w'.heap[b]? = some (.cells #[.string s, .int .i64 j] t (0, 0)) ∧
    match numR r with
    | some (n, r') => x = n ∧ ok = true ∧ s.data.toList.drop j = r'
    | none => ok = false

set_option maxHeartbeats 1000000 in
theorem setNumber_any (b : Nat) (s : ByteArray) (k : Nat) (t : TypeId) (w : World) (hs : s.size ≤ maxLen) (hk : k ≤ s.size) (hb : w.heap[b]? = some (.cells #[.string s, .int .i64 k] t (0, 0))) :
    Calls Tryz.prog 89 #[.pointer (some ⟨b, 0, none⟩)] w (NumRes b s t (s.data.toList.drop k) w) := by
  have hs' := hs
  unfold maxLen at hs'
  by_cases h42 : (s.data.toList.drop k).head? = some 42
  · have HR : Hid (numR (s.data.toList.drop k) = some (0, s.data.toList.drop (k + 1))) := by
      cases hd : s.data.toList.drop k with
      | nil => rw [hd] at h42; cases h42
      | cons c t' =>
        rw [hd] at h42; simp at h42; subst h42
        have : s.data.toList.drop (k + 1) = t' := by
          rw [← List.drop_drop, hd]; rfl
        show numR (42 :: t') = _
        rw [this]; rfl
    go_enter Tryz.func89, Tryz.ntmps89
    go_wp2_with fail
    refine (take_yes b s k 42 42 t w hs rfl h42 hb).mono ?_
    rintro e w1 ⟨rfl, hK, j, hj, hjs, hb1⟩
    have HK := hid hK
    have HB := hid hb1
    have HJ := hid hj
    clear hK hb1 hj hb
    go_wp2
    go_ret2
    exact ⟨0, true, j, rfl, HK.out, hjs, HB.out, by rw [HR.out, HJ.out]; exact ⟨rfl, rfl, rfl⟩⟩
  · have HB0 := hid hb
    go_enter Tryz.func89, Tryz.ntmps89
    go_wp2_with fail
    refine (take_no b s k 42 42 t w hs hk rfl h42 hb).mono ?_
    rintro e w1 ⟨rfl, n, rfl⟩
    have H42 := hid h42
    have HS := hid hs
    clear h42 hs
    refine gen_world (fun W => W.heap[b]? = some (.cells #[.string s, .int .i64 k] t (0, 0)) ∧ Kept [b] w W) ⟨hb, (Kept.refl _ _).drewN _⟩ ?_
    rintro W ⟨hb2, hK⟩
    have hc0 := cell_of_block hb2 0
    have hc1 := cell_of_block hb2 1
    have hf1 := frozen_of_block hb2 1
    simp at hc0 hc1
    have HB := hid hb2
    have HK := hid hK
    clear hb HB0 hb2 hK
    by_cases hlt : k < s.size
    · have hhead : (s.data.toList.drop k).head? = some s[k] := by rw [List.head?_drop]; simp [hlt]; rfl
      by_cases h48 : s[k] = 48
      · have h48' : ((s[k].toNat : Int) == 48) = true := by rw [h48]; rfl
        have HR : Hid (numR (s.data.toList.drop k) = none) := by
          show numR (s.data.toList.drop k) = none
          rw [List.drop_eq_getElem_cons (by simpa using hlt : k < s.data.toList.length)]
          have e : s.data.toList[k]'(by simpa using hlt) = 48 := h48
          rw [e]; rfl
        clear h48 hhead
        go_wp2
        go_quiet ((go_at_call 68; exact done_no b s k _ _ hc0 hc1 hlt))
        go_wp2
        go_ret2
        exact ⟨0, false, k, rfl, HK.out.drewN _, hk, HB.out, by rw [HR.out]⟩
      · have h48' : ((s[k].toNat : Int) == 48) = false := by
          rw [beq_eq_false_iff_ne]; intro e; exact h48 (UInt8.toNat_inj.1 (by have h9 : (48 : UInt8).toNat = 48 := rfl; omega))
        have HE := hid (fun j => numR_end (s.data.toList.drop k) j H42.out (by rw [hhead]; intro e; injection e with e; exact h48 e))
        clear h48 hhead
        go_wp2
        go_quiet ((go_at_call 68; exact done_no b s k _ _ hc0 hc1 hlt))
        go_wp2
        refine gen_world (fun W => W.heap[b]? = some (.cells #[.string s, .int .i64 k] t (0, 0)) ∧ Kept [b] w W) ⟨HB.out, HK.out.drewN _⟩ ?_
        clear hc0 hc1 hf1 HB HK
        rintro W1 ⟨hb2, hK⟩
        have hc0 := cell_of_block hb2 0
        have hc1 := cell_of_block hb2 1
        simp at hc0 hc1
        go_wp2
        go_loopg [5] 3 (fun m x wr => ∃ j p : Nat, p = k + j ∧ m = 3 - j ∧ j ≤ 2 ∧ p ≤ s.size ∧ x = .int .i64 (digs (s.data.toList.drop k) j) ∧ (∀ i, i < j → isDg ((s.data.toList.drop k).getD i 0) = true) ∧ wr.heap[b]? = some (.cells #[.string s, .int .i64 p] t (0, 0)) ∧ Kept [b] w wr)
        case atStart => exact ⟨0, k, rfl, rfl, by omega, hk, rfl, fun i hi => by omega, hb2, hK⟩
        case round =>
          obtain ⟨j, p, hp, hm, hj2, hjs, rfl, hdg, hbj, hKj⟩ := hrel
          have HP := hid hp
          have HM := hid hm
          have HD := hid hdg
          have HBJ := hid hbj
          have HKJ := hid hKj
          have hc0 := cell_of_block hbj 0
          have hc1 := cell_of_block hbj 1
          have hf1 := frozen_of_block hbj 1
          simp at hc0 hc1
          have HE := hid (HE.out j)
          have HLEN : Hid ((s.data.toList.drop k).length = s.size - k) := by show _ = _; simp
          have hpk : k ≤ p := by omega
          have hbd := digs_bd (s.data.toList.drop k) j hdg
          generalize hgd : digs (s.data.toList.drop k) j = D at hbd
          have HGD := hid hgd
          clear hm hdg hbj hKj hb2 hK hp hgd hk
          by_cases hlj : p < s.size
          · have hg : (s.data.toList.drop k).getD j 0 = s[p] := by
              have hp := HP.out; subst hp; exact getD_drop _ _ _ (by simpa using hlj)
            have HG := hid hg
            clear hg
            by_cases hj : j < 2
            · have hj' : (p : Int) - k < 2 := by have := HP.out; omega
              have HST := hid (digs_step (s.data.toList.drop k) j hj)
              clear hj hj2
              by_cases hd : isDg s[p] = true
              · have h0 : (48 : Int) ≤ (s[p].toNat : Int) := by unfold isDg at hd; simp at hd; omega
                have h1 : (s[p].toNat : Int) ≤ 57 := by unfold isDg at hd; simp at hd; omega
                have hsub := dg_sub h0 h1
                have HDG := hid hd
                clear hd
                go_wp2
                go_quiet ((go_at_call 68; exact done_no b s p _ _ hc0 hc1 hlj))
                refine gen_world (fun W => W.heap[b]? = some (.cells #[.string s, .int .i64 p] t (0, 0)) ∧ Kept [b] w W) ⟨HBJ.out, HKJ.out.drewN _⟩ ?_
                clear hc0 hc1 hf1 HBJ HKJ
                rintro W2 ⟨hb2, hK⟩
                have hc0 := cell_of_block hb2 0
                have hc1 := cell_of_block hb2 1
                have hf1 := frozen_of_block hb2 1
                simp at hc0 hc1
                have HB2 := hid hb2
                have HK2 := hid hK
                clear hb2 hK
                go_wp2
                go_quiet (fail)
                go_wp2
                go_roundg (3 - (j + 1))
                case measure => have := HM.out; have := HP.out; omega
                case rel =>
                  refine ⟨j + 1, p + 1, by have := HP.out; omega, rfl, by have := HP.out; omega, by omega, ?_, fun i hi => ?_, ?_, (HK2.out.drewN _).setCell _ _ (by simp)⟩
                  · rw [HST.out, HGD.out, HG.out]; unfold dgv; congr 1; omega
                  · rcases Nat.lt_or_ge i j with h | h
                    · exact HD.out i h
                    · have : i = j := by omega
                      subst this; rw [HG.out]; exact HDG.out
                  · exact set_of_blockN HB2.out _
              · have hd' : isDg s[p] = false := by simpa using hd
                have HX : Hid (j = (s.data.toList.drop k).length ∨ j = 2 ∨ isDg ((s.data.toList.drop k).getD j 0) = false) := .inr (.inr (by rw [HG.out]; exact hd'))
                have HJ2 : Hid (j ≤ 2) := by show _ ≤ _; have := HP.out; omega
                by_cases h0 : (48 : Int) ≤ (s[p].toNat : Int)
                · have h1 : ¬ (s[p].toNat : Int) ≤ 57 := by unfold isDg at hd'; simp at hd'; omega
                  have h1' : decide ((s[p].toNat : Int) ≤ 57) = false := by simpa using h1
                  clear hd hd'
                  go_wp2
                  go_quiet ((go_at_call 68; exact done_no b s p _ _ hc0 hc1 hlj))
                  go_wp2
                  refine gen_world (fun W => W.heap[b]? = some (.cells #[.string s, .int .i64 p] t (0, 0)) ∧ Kept [b] w W) ⟨HBJ.out, HKJ.out.drewN _⟩ ?_
                  clear hc0 hc1 hf1 HBJ HKJ
                  rintro W2 ⟨hb2, hK⟩
                  have hc0 := cell_of_block hb2 0
                  have hc1 := cell_of_block hb2 1
                  simp at hc0 hc1
                  have HB2 := hid hb2
                  have HK2 := hid hK
                  clear hb2 hK
                  by_cases h1 : (k : Int) < p
                  · have HF : Hid (numR (s.data.toList.drop k) = some (D, s.data.toList.drop p)) := by
                      show _ = _
                      have := HP.out
                      rw [HE.out (by have := HJ2.out; omega) (by rw [HLEN.out]; omega) HD.out HX.out, if_pos (by omega), HGD.out, List.drop_drop, this]
                    clear HX HE
                    first | go_quiet (fail) | go_wp2
                    go_wp2
                    go_ret2
                    exact ⟨D, _, p, rfl, by first | exact HK2.out.drewN _ | exact HK2.out, hjs, HB2.out, by rw [HF.out]; exact ⟨rfl, by simp, rfl⟩⟩
                  · have HF : Hid (numR (s.data.toList.drop k) = none) := by
                      show _ = _
                      have := HP.out
                      rw [HE.out (by have := HJ2.out; omega) (by rw [HLEN.out]; omega) HD.out HX.out, if_neg (by omega)]
                    have h1' : decide ((k : Int) < p) = false := by simpa using h1
                    clear HX HE
                    first | go_quiet (fail) | go_wp2
                    go_wp2
                    go_ret2
                    exact ⟨D, _, p, rfl, by first | exact HK2.out.drewN _ | exact HK2.out, hjs, HB2.out, by rw [HF.out]⟩
                · have h0' : decide ((48 : Int) ≤ (s[p].toNat : Int)) = false := by simpa using h0
                  clear hd hd'
                  go_wp2
                  go_quiet ((go_at_call 68; exact done_no b s p _ _ hc0 hc1 hlj))
                  go_wp2
                  refine gen_world (fun W => W.heap[b]? = some (.cells #[.string s, .int .i64 p] t (0, 0)) ∧ Kept [b] w W) ⟨HBJ.out, HKJ.out.drewN _⟩ ?_
                  clear hc0 hc1 hf1 HBJ HKJ
                  rintro W2 ⟨hb2, hK⟩
                  have hc0 := cell_of_block hb2 0
                  have hc1 := cell_of_block hb2 1
                  simp at hc0 hc1
                  have HB2 := hid hb2
                  have HK2 := hid hK
                  clear hb2 hK
                  by_cases h1 : (k : Int) < p
                  · have HF : Hid (numR (s.data.toList.drop k) = some (D, s.data.toList.drop p)) := by
                      show _ = _
                      have := HP.out
                      rw [HE.out (by have := HJ2.out; omega) (by rw [HLEN.out]; omega) HD.out HX.out, if_pos (by omega), HGD.out, List.drop_drop, this]
                    clear HX HE
                    first | go_quiet (fail) | go_wp2
                    go_wp2
                    go_ret2
                    exact ⟨D, _, p, rfl, by first | exact HK2.out.drewN _ | exact HK2.out, hjs, HB2.out, by rw [HF.out]; exact ⟨rfl, by simp, rfl⟩⟩
                  · have HF : Hid (numR (s.data.toList.drop k) = none) := by
                      show _ = _
                      have := HP.out
                      rw [HE.out (by have := HJ2.out; omega) (by rw [HLEN.out]; omega) HD.out HX.out, if_neg (by omega)]
                    have h1' : decide ((k : Int) < p) = false := by simpa using h1
                    clear HX HE
                    first | go_quiet (fail) | go_wp2
                    go_wp2
                    go_ret2
                    exact ⟨D, _, p, rfl, by first | exact HK2.out.drewN _ | exact HK2.out, hjs, HB2.out, by rw [HF.out]⟩
            · have hj' : ¬ (p : Int) - k < 2 := by have := HP.out; omega
              have hj2' : decide ((p : Int) - k < 2) = false := by simpa using hj'
              have HX : Hid (j = (s.data.toList.drop k).length ∨ j = 2 ∨ isDg ((s.data.toList.drop k).getD j 0) = false) := .inr (.inl (by omega))
              have HJ2 : Hid (j ≤ 2) := by show _ ≤ _; omega
              clear hj hj2
              go_wp2
              go_quiet ((go_at_call 68; exact done_no b s p _ _ hc0 hc1 hlj))
              go_wp2
              refine gen_world (fun W => W.heap[b]? = some (.cells #[.string s, .int .i64 p] t (0, 0)) ∧ Kept [b] w W) ⟨HBJ.out, HKJ.out.drewN _⟩ ?_
              clear hc0 hc1 hf1 HBJ HKJ
              rintro W2 ⟨hb2, hK⟩
              have hc0 := cell_of_block hb2 0
              have hc1 := cell_of_block hb2 1
              simp at hc0 hc1
              have HB2 := hid hb2
              have HK2 := hid hK
              clear hb2 hK
              by_cases h1 : (k : Int) < p
              · have HF : Hid (numR (s.data.toList.drop k) = some (D, s.data.toList.drop p)) := by
                  show _ = _
                  have := HP.out
                  rw [HE.out (by have := HJ2.out; omega) (by rw [HLEN.out]; omega) HD.out HX.out, if_pos (by omega), HGD.out, List.drop_drop, this]
                clear HX HE
                first | go_quiet (fail) | go_wp2
                go_wp2
                go_ret2
                exact ⟨D, _, p, rfl, by first | exact HK2.out.drewN _ | exact HK2.out, hjs, HB2.out, by rw [HF.out]; exact ⟨rfl, by simp, rfl⟩⟩
              · have HF : Hid (numR (s.data.toList.drop k) = none) := by
                  show _ = _
                  have := HP.out
                  rw [HE.out (by have := HJ2.out; omega) (by rw [HLEN.out]; omega) HD.out HX.out, if_neg (by omega)]
                have h1' : decide ((k : Int) < p) = false := by simpa using h1
                clear HX HE
                first | go_quiet (fail) | go_wp2
                go_wp2
                go_ret2
                exact ⟨D, _, p, rfl, by first | exact HK2.out.drewN _ | exact HK2.out, hjs, HB2.out, by rw [HF.out]⟩
          · have hpe : p = s.size := by omega
            have HX : Hid (j = (s.data.toList.drop k).length ∨ j = 2 ∨ isDg ((s.data.toList.drop k).getD j 0) = false) := .inl (by rw [HLEN.out]; have := HP.out; omega)
            have HJ2 : Hid (j ≤ 2) := by show _ ≤ _; omega
            clear hj2 hpe
            go_wp2
            go_quiet ((go_at_call 68; exact done_yes b s p _ _ hc0 hc1 hlj hjs))
            go_wp2
            refine gen_world (fun W => W.heap[b]? = some (.cells #[.string s, .int .i64 p] t (0, 0)) ∧ Kept [b] w W) ⟨HBJ.out, HKJ.out.drewN _⟩ ?_
            clear hc0 hc1 hf1 HBJ HKJ
            rintro W2 ⟨hb2, hK⟩
            have hc0 := cell_of_block hb2 0
            have hc1 := cell_of_block hb2 1
            simp at hc0 hc1
            have HB2 := hid hb2
            have HK2 := hid hK
            clear hb2 hK
            by_cases h1 : (k : Int) < p
            · have HF : Hid (numR (s.data.toList.drop k) = some (D, s.data.toList.drop p)) := by
                show _ = _
                have := HP.out
                rw [HE.out (by have := HJ2.out; omega) (by rw [HLEN.out]; omega) HD.out HX.out, if_pos (by omega), HGD.out, List.drop_drop, this]
              clear HX HE
              first | go_quiet (fail) | go_wp2
              go_wp2
              go_ret2
              exact ⟨D, _, p, rfl, by first | exact HK2.out.drewN _ | exact HK2.out, hjs, HB2.out, by rw [HF.out]; exact ⟨rfl, by simp, rfl⟩⟩
            · have HF : Hid (numR (s.data.toList.drop k) = none) := by
                show _ = _
                have := HP.out
                rw [HE.out (by have := HJ2.out; omega) (by rw [HLEN.out]; omega) HD.out HX.out, if_neg (by omega)]
              have h1' : decide ((k : Int) < p) = false := by simpa using h1
              clear HX HE
              first | go_quiet (fail) | go_wp2
              go_wp2
              go_ret2
              exact ⟨D, _, p, rfl, by first | exact HK2.out.drewN _ | exact HK2.out, hjs, HB2.out, by rw [HF.out]⟩
    · obtain rfl : k = s.size := by omega
      have HR : Hid (numR (s.data.toList.drop s.size) = none) := by
        show _ = _
        rw [List.drop_eq_nil_of_le (by simp)]; rfl
      go_wp2
      go_quiet ((go_at_call 68; exact done_yes b s s.size _ _ hc0 hc1 hlt hk))
      go_wp2
      go_ret2
      exact ⟨0, false, s.size, rfl, HK.out.drewN _, hk, HB.out, by rw [HR.out]⟩
end Go.Proofs.YtoleonldkifcbaaGreatDoor
namespace Go.Proofs.YtoleonldkifcbaaGreatDoor
open Go.RowKit

theorem inf_span : (Tryz.prog.info? 85).map (fun i => (i.zero, i.size, i.bytes)) = some (some (.agg #[.int .i64 0, .int .i64 0]), 2, 16) := by kernel_rfl
/-- A span's cells. -/
def scs (s : Int × Int) : List Value := [.int .i64 s.1, .int .i64 s.2]
theorem own_spans {w : World} {base cap g : Nat} {l : List (Int × Int)} (h : w.ownsRow base 85 2 (.slice (some ⟨g, 0, none⟩) l.length cap) l.length (l.flatMap scs)) (hl : l.length ≤ bigN) : SpansAt base w (.slice (some ⟨g, 0, none⟩) l.length cap) l := by
  rcases Nat.eq_zero_or_pos l.length with h0 | h0
  · obtain ⟨-, h2⟩ := h
    rcases h2 with ⟨hv, -⟩ | ⟨g, cap, cur, hv, -, -, hc, -⟩
    · cases hv
    · injection hv with e1 e2 e3; subst e3
      exact ⟨_, cap, 0, 0, rfl, hl, hc, fun h1 => by omega, fun j hj => by omega⟩
  · obtain ⟨g', cap', hv, hg, hh, hcp, _, hc⟩ := own_open h h0
    injection hv with e1 e2 e3
    injection e1 with e1
    injection e1 with e1
    subst e1 e3
    refine ⟨_, cap, g, 0, rfl, hl, hcp, fun _ => ⟨rfl, hg, hh⟩, fun j hj => ?_⟩
    have cell : ∀ i, i < 2 → w.cell? ⟨g, j * 2 + i, none⟩ = (scs l[j])[i]? := fun i hi => by
      rcases hc (j * 2 + i) with h1 | h1
      · rw [h1, flat_get scs 2 (fun _ => rfl) l j i hj hi]
      · omega
    exact ⟨by rw [Nat.zero_add]; exact cell 0 (by omega), by rw [Nat.zero_add]; exact cell 1 (by omega)⟩

/-- What reading a span tells. -/
def SpanRes (b : Nat) (s : ByteArray) (t : TypeId) (r : List UInt8) (w : World) (e : Ending) (w' : World) : Prop :=
  ∃ x y : Int, ∃ ok : Bool, ∃ j : Nat, e = .returned (.tuple #[.agg #[.int .i64 x, .int .i64 y], .bool ok]) ∧ Kept [b] w w' ∧ j ≤ s.size ∧ w'.heap[b]? = some (.cells #[.string s, .int .i64 j] t (0, 0)) ∧
    match spanR r with
    | some (n, r') => (x, y) = n ∧ ok = true ∧ s.data.toList.drop j = r'
    | none => ok = false

set_option maxHeartbeats 1000000 in
theorem setSpan_any (b : Nat) (s : ByteArray) (k : Nat) (t : TypeId) (w : World) (hs : s.size ≤ maxLen) (hk : k ≤ s.size) (hb : w.heap[b]? = some (.cells #[.string s, .int .i64 k] t (0, 0))) :
    Calls Tryz.prog 67 #[.pointer (some ⟨b, 0, none⟩)] w (SpanRes b s t (s.data.toList.drop k) w) := by
  have hbl := lt_of_block hb
  have HW := hid (alloc_block hb (Obj.cells #[.int .i64 0, .int .i64 0] 85))
  have HN := hid (new_block w (Obj.cells #[.int .i64 0, .int .i64 0] 85))
  have K0 := hid ((Kept.refl [b] w).alloc (Obj.cells #[.int .i64 0, .int .i64 0] 85))
  clear hb
  go_enter Tryz.func67, Tryz.ntmps67
  go_wp2_with fail
  refine (setNumber_any b s k t _ hs hk HW.out).mono ?_
  rintro e w1 ⟨x, ok, j, rfl, hK, hj, hb1, hres⟩
  have hz1 := hK.same HN.out (by simp; omega)
  have z0 := cell_of_block hz1 0
  have z1 := cell_of_block hz1 1
  have f0 := frozen_of_block hz1 0
  have f1 := frozen_of_block hz1 1
  have hzl := lt_of_block hz1
  simp at z0 z1
  have HK := hid (K0.out.trans hK)
  have HB := hid hb1
  have HZ := hid hz1
  clear hK hb1 hz1
  cases hn : numR (s.data.toList.drop k) with
  | none =>
    rw [hn] at hres
    dsimp only at hres
    subst hres
    have HR : Hid (spanR (s.data.toList.drop k) = none) := by show _ = _; unfold spanR; rw [hn]
    clear hn
    go_wp2
    refine bodyPost_ret (v := .tuple #[.agg #[.int .i64 0, .int .i64 0], .bool false]) (by simp [results, Tryz.results67, go_sem, z0, z1]) rfl ⟨0, 0, false, j, rfl, ?_, hj, ?_, ?_⟩
    · (repeat' with_reducible first | exact HK.out | refine Kept.setCell ?_ _ _ (by simp))
    · exact set_other (set_other HB.out _ _ (by simp; omega)) _ _ (by simp; omega)
    · rw [HR.out]
  | some nr =>
    obtain ⟨n, r1⟩ := nr
    rw [hn] at hres
    dsimp only at hres
    obtain ⟨rfl, rfl, hd⟩ := hres
    have HD := hid hd
    have HNR := hid hn
    clear hn hd
    by_cases h58 : r1.head? = some 58
    · obtain ⟨t1, rfl⟩ : ∃ t1, r1 = 58 :: t1 := by
        cases r1 with
        | nil => cases h58
        | cons c t1 => simp at h58; subst h58; exact ⟨t1, rfl⟩
      clear h58
      go_wp2_with fail
      refine (take_yes b s j 58 58 t w1 hs rfl (by rw [HD.out]; rfl) HB.out).mono ?_
      rintro e w2 ⟨rfl, hK, j2, hj2, hjs2, hb2⟩
      have HK2 := hid (HK.out.trans hK)
      have HB2 := hid hb2
      have hz2 := hK.same HZ.out (by simp; omega)
      have HD2 : Hid (s.data.toList.drop j2 = t1) := by
        show _ = _
        rw [hj2, ← List.drop_drop, HD.out]; rfl
      clear hK hb2 HB HK HZ z0 z1 f0 f1 hj2
      go_wp2_with fail
      refine (setNumber_any b s j2 t _ hs hjs2 HB2.out).mono ?_
      rintro e w3 ⟨x2, ok2, j3, rfl, hK, hj3, hb3, hres⟩
      have hz3 := hK.same hz2 (by simp; omega)
      have z0 := cell_of_block hz3 0
      have z1 := cell_of_block hz3 1
      have f0 := frozen_of_block hz3 0
      have f1 := frozen_of_block hz3 1
      have hzl := lt_of_block hz3
      simp at z0 z1
      have HK3 := hid (HK2.out.trans hK)
      have HB3 := hid hb3
      rw [HD2.out] at hres
      have HRS := hid hres
      clear hK hb3 hz3 hz2 hres HK2 HB2 HD2
      go_wp2
      refine bodyPost_ret (v := .tuple #[.agg #[.int .i64 x, .int .i64 x2], .bool ok2]) (by simp [results, Tryz.results67, go_sem, z0, z1]) rfl ⟨x, x2, ok2, j3, rfl, ?_, hj3, ?_, ?_⟩
      · (repeat' with_reducible first | exact HK3.out | refine Kept.setCell ?_ _ _ (by simp))
      · exact set_other (set_other HB3.out _ _ (by simp; omega)) _ _ (by simp; omega)
      · have hres := HRS.out
        have e : spanR (s.data.toList.drop k) = match numR t1 with | none => none | some (b, r2) => some ((x, b), r2) := by
          unfold spanR; rw [HNR.out]; rfl
        rw [e]
        cases hm : numR t1 with
        | none => rw [hm] at hres; exact hres
        | some mr => obtain ⟨m, r2⟩ := mr; rw [hm] at hres; exact ⟨by rw [hres.1], hres.2.1, hres.2.2⟩
    · go_wp2_with fail
      refine (take_no b s j 58 58 t w1 hs hj rfl (by rw [HD.out]; exact h58) HB.out).mono ?_
      rintro e w2 ⟨rfl, m, rfl⟩
      have HR : Hid (spanR (s.data.toList.drop k) = some ((x, x), r1)) := by
        show _ = _
        unfold spanR; rw [HNR.out]
        cases r1 with
        | nil => rfl
        | cons c t1 => simp at h58; simp [h58]
      clear h58
      have z0 : (w1.drewN m).cell? ⟨w.heap.size, 0, none⟩ = some (.int .i64 0) := z0
      have z1 : (w1.drewN m).cell? ⟨w.heap.size, 1, none⟩ = some (.int .i64 0) := z1
      have f0 : (w1.drewN m).frozen? ⟨w.heap.size, 0, none⟩ = false := f0
      have f1 : (w1.drewN m).frozen? ⟨w.heap.size, 1, none⟩ = false := f1
      go_wp2
      refine bodyPost_ret (v := .tuple #[.agg #[.int .i64 x, .int .i64 x], .bool true]) (by simp [results, Tryz.results67, go_sem, z0, z1]) rfl ⟨x, x, true, j, rfl, ?_, hj, ?_, ?_⟩
      · (repeat' with_reducible first | exact HK.out | refine Kept.setCell ?_ _ _ (by simp) | refine Kept.drewN ?_ _)
      · exact set_other (set_other (w := w1.drewN m) HB.out _ _ (by simp; omega)) _ _ (by simp; omega)
      · rw [HR.out]; exact ⟨rfl, rfl, HD.out⟩
end Go.Proofs.YtoleonldkifcbaaGreatDoor
namespace Go.Proofs.YtoleonldkifcbaaGreatDoor
open Go.RowKit

/-- What reading a set tells. -/
def SetRes (o : Option (List (Int × Int))) (w : World) (e : Ending) (w' : World) : Prop :=
  ∃ v, e = .returned (.tuple #[v, .bool o.isSome]) ∧ Kept [] w w' ∧ w'.ownsRow w.heap.size 85 2 v (o.getD []).length ((o.getD []).flatMap scs)

theorem setR_step (n : Nat) (r : List UInt8) : setR (n + 1) r = match spanR r with
    | none => none
    | some (s, r1) => match r1 with
      | [] => some [s]
      | c :: t => if c = 44 then (setR n t).map (s :: ·) else none := rfl
theorem map_app {α : Type} (D : List α) (s : α) (o : Option (List α)) : (o.map (s :: ·)).map (D ++ ·) = o.map ((D ++ [s]) ++ ·) := by cases o <;> simp

def setCont (D : List (Int × Int)) (sp : Int × Int) (n : Nat) : List UInt8 → Option (List (Int × Int))
  | [] => some (D ++ [sp])
  | c :: t => if c = 44 then (setR n t).map ((D ++ [sp]) ++ ·) else none
theorem setR_use {D : List (Int × Int)} {sp : Int × Int} {n : Nat} {r r1 : List UInt8} (h : spanR r = some (sp, r1)) : (setR (n + 1) r).map (D ++ ·) = setCont D sp n r1 := by
  rw [setR_step, h]
  cases r1 with
  | nil => rfl
  | cons c t =>
    unfold setCont
    dsimp only
    split
    · rw [map_app]
    · rfl
theorem own_more {w : World} {base : Nat} {v : Value} {D : List (Int × Int)} {sp : Int × Int} (h : w.ownsRow base 85 2 v (D.length + 1) (D.flatMap scs ++ scs sp)) : w.ownsRow base 85 2 v (D ++ [sp]).length ((D ++ [sp]).flatMap scs) := by
  have e1 : (D ++ [sp]).length = D.length + 1 := by simp
  have e2 : (D ++ [sp]).flatMap scs = D.flatMap scs ++ scs sp := by simp
  rw [e1, e2]; exact h
theorem own_low {w : World} {base base' : Nat} {e : TypeId} {size : Nat} {v : Value} {n : Nat} {xs : List Value} (h : w.ownsRow base e size v n xs) (hb : base' ≤ base) : w.ownsRow base' e size v n xs := by
  obtain ⟨h1, h2⟩ := h
  refine ⟨h1, h2.imp id ?_⟩
  rintro ⟨g, cap, cur, hv, hg, r⟩
  exact ⟨g, cap, cur, hv, Nat.le_trans hb hg, r⟩

set_option maxRecDepth 100000 in
set_option maxHeartbeats 2000000 in
theorem iSetParse_any (s : ByteArray) (w : World) (hs : s.size ≤ bigN) :
    Calls Tryz.prog 46 #[.string s] w (SetRes (setP s.data.toList) w) := by
  have hs' := Nat.le_trans hs bigN_le
  go_enter Tryz.func46, Tryz.ntmps46
  go_wp2
  go_loopg [5] 7 (fun m v wr => ∃ (g cap k : Nat) (D : List (Int × Int)), m = 7 - D.length ∧ D.length ≤ 6 ∧ k ≤ s.size ∧ v = .slice (some ⟨g, 0, none⟩) D.length cap ∧ setP s.data.toList = (setR (6 - D.length) (s.data.toList.drop k)).map (D ++ ·) ∧
    wr.ownsRow (w.heap.size + 1) 85 2 (.slice (some ⟨g, 0, none⟩) D.length cap) D.length (D.flatMap scs) ∧ wr.heap[w.heap.size]? = some (.cells #[.string s, .int .i64 k] 99 (0, 0)) ∧ Kept [] w wr)
  case atStart =>
    refine ⟨w.heap.size + 1, 0, 0, [], rfl, by simp, Nat.zero_le _, by simp, ?_, ?_, ?_, ?_⟩
    · unfold setP; simp
    · have := World.ownsRow_made (w.alloc (.cells #[.string s, .int .i64 0] 99)) #[] 0 (e := 85) (size := 2) (Nat.le_refl _) (Nat.zero_le _) rfl
      simpa using this
    · exact alloc_block (new_block w _) _
    · exact ((Kept.refl _ _).alloc _).alloc _
  case round =>
    obtain ⟨g, cap, k, D, hm, hD, hk, rfl, hset, hown, hB, hK⟩ := hrel
    have HM := hid hm
    have HS := hid hset
    have HO := hid hown
    have HB := hid hB
    have HK := hid hK
    clear hm hset hown hB hK
    by_cases hlt : D.length < 6
    · have hlt' : (D.length : Int) < 6 := by omega
      go_wp2_with fail
      refine (setSpan_any w.heap.size s k _ wr hs' hk HB.out).mono ?_
      rintro e w1 ⟨x, y, ok, j, rfl, hK1, hj, hB1, hres⟩
      have HO1 := hid (own_kept HO.out hK1 (by simp))
      have HK1 := hid (HK.out.newB hK1 (Nat.le_refl _))
      have HB1 := hid hB1
      clear hK1 hB1 HO HB HK
      cases hsp : spanR (s.data.toList.drop k) with
      | none =>
        rw [hsp] at hres
        dsimp only at hres
        subst hres
        have HR : Hid (setP s.data.toList = none) := by
          show _ = _
          rw [HS.out, show 6 - D.length = (6 - D.length - 1) + 1 by omega, setR_step, hsp]; rfl
        clear hsp
        go_wp2
        refine bodyPost_ret (v := .tuple #[.slice (some ⟨w1.heap.size + 1, 0, none⟩) 0 0, .bool false]) (by simp [results, Tryz.results46, go_sem]) rfl ⟨_, by rw [HR.out]; rfl, (HK1.out.alloc _).alloc _, ?_⟩
        rw [HR.out]
        have := World.ownsRow_made (w1.alloc (.cells #[.int .i64 x, .int .i64 y] 85)) #[] 0 (e := 85) (size := 2) (base := w.heap.size) (by have := HK1.out.size; simp; omega) (Nat.zero_le _) rfl
        simpa using this
      | some sr =>
        obtain ⟨sp, r1⟩ := sr
        rw [hsp] at hres
        dsimp only at hres
        obtain ⟨hxy, rfl, hd⟩ := hres
        subst hxy
        have HD := hid hd
        have HSP := hid hsp
        clear hsp hd
        go_wp2_with (at_builtin; refine append_gen 23 85 _ 2 16 Tryz.underlying23 inf_span rfl (by decide) (by decide) rfl (.tmp 21) (.tmp 23) rfl (w.heap.size + 1) _ D.length (D.flatMap scs) rfl ((HO1.out.alloc _).alloc _) (w1.heap.size + 1) 1 1 (scs (x, y)) rfl #[.int .i64 x, .int .i64 y] (0, 0) (new_block2 _ _ _) rfl rfl (by simp [scs, Value.oneCell']) (by unfold bigN; omega) (by omega) (by have := lt_of_block HB1.out; simp; omega) ?_; intro g2 cap2 w2 hown2 hgrow2)
        have HO2 := hid hown2
        have HK2 := hid (((HK1.out.alloc _).alloc _).own ((HO1.out.alloc _).alloc _) hgrow2 (by omega))
        have hne : (Value.slice (some ⟨g, 0, none⟩) D.length cap).ownBlock ≠ some w.heap.size := fun e => by
          have := (HO1.out.lt w.heap.size e).1; omega
        have HB2 : Hid (w2.heap[w.heap.size]? = some (.cells #[.string s, .int .i64 j] 99 (0, 0))) := by
          show _ = _
          rw [hgrow2.block _ (by have := lt_of_block HB1.out; simp; omega) (fun e => hne e.symm)]
          exact alloc_block (alloc_block HB1.out _) _
        clear hown2 hgrow2 hne HO1
        have hc0 := cell_of_block HB2.out 0
        have hc1 := cell_of_block HB2.out 1
        simp at hc0 hc1
        have HSET : Hid (setP s.data.toList = setCont D (x, y) (6 - (D.length + 1)) r1) := by
          show _ = _
          rw [HS.out, show 6 - D.length = (6 - (D.length + 1)) + 1 by omega]; exact setR_use HSP.out
        by_cases hend : j = s.size
        · have hr : r1 = [] := by rw [← HD.out, hend]; simp
          subst hr
          go_wp2_with fail
          refine (done_any _ s j w2 hc0 hc1).mono ?_
          rintro e w3 ⟨rfl, n, rfl⟩
          rw [decide_eq_true hend]
          go_wp2
          refine bodyPost_ret (v := .tuple #[.slice (some ⟨g2, 0, none⟩) (D.length + 1) cap2, .bool true]) (by simp [results, Tryz.results46, go_sem]) rfl ⟨_, by rw [HSET.out]; rfl, HK2.out.drewN _, ?_⟩
          rw [HSET.out]
          exact own_low (own_kept (own_more HO2.out) ((Kept.refl [] _).drewN n) (by simp)) (by omega)
        · go_wp2_with fail
          refine (done_any _ s j w2 hc0 hc1).mono ?_
          rintro e w3 ⟨rfl, n, rfl⟩
          rw [decide_eq_false hend]
          have hr : ∃ c t, r1 = c :: t := by
            cases r1 with
            | nil => exact absurd (by have := congrArg List.length HD.out; simp at this; omega) hend
            | cons c t => exact ⟨c, t, rfl⟩
          obtain ⟨c, t, rfl⟩ := hr
          by_cases hc : c = 44
          · subst hc
            go_wp2_with fail
            refine (take_yes w.heap.size s j 44 44 _ (w2.drewN n) hs' rfl (by rw [HD.out]; rfl) HB2.out).mono ?_
            rintro e w3 ⟨rfl, hK3, j3, hj3, hjs3, hB3⟩
            have HJ3 := hid hj3
            have HK3 := hid ((HK2.out.drewN n).newB hK3 (Nat.le_refl _))
            have HO3 := hid (own_kept (own_kept (own_more HO2.out) ((Kept.refl [] _).drewN n) (by simp)) hK3 (by simp))
            have HB3 := hid hB3
            clear hK3 hB3 hj3 hend HO2 HK2 hc0 hc1
            go_wp2
            go_roundg (7 - (D.length + 1))
            case measure => have := HM.out; omega
            case rel =>
              refine ⟨g2, cap2, j3, D ++ [(x, y)], by simp, by simp; omega, hjs3, by simp, ?_, by have := HO3.out; simpa using this, HB3.out, HK3.out⟩
              rw [HSET.out, List.length_append, List.length_singleton]
              have : s.data.toList.drop j3 = t := by rw [HJ3.out, ← List.drop_drop, HD.out]; rfl
              rw [this]; rfl
          · go_wp2_with fail
            refine (take_no w.heap.size s j 44 44 _ (w2.drewN n) hs' hj rfl (by rw [HD.out]; simpa using hc) HB2.out).mono ?_
            rintro e w3 ⟨rfl, n3, rfl⟩
            have HR : Hid (setP s.data.toList = none) := by
              show _ = _
              rw [HSET.out]; simp [setCont, hc]
            go_wp2
            refine bodyPost_ret (v := .tuple #[.slice (some ⟨w2.heap.size, 0, none⟩) 0 0, .bool false]) (by simp [results, Tryz.results46, go_sem]) rfl ⟨_, by rw [HR.out]; rfl, ?_, ?_⟩
            · (repeat' with_reducible first | exact HK2.out | refine Kept.alloc ?_ _ | refine Kept.drewN ?_ _)
            rw [HR.out]
            have := World.ownsRow_made ((w2.drewN n).drewN n3) #[] 0 (e := 85) (size := 2) (base := w.heap.size) (by have := HK2.out.size; simpa using this) (Nat.zero_le _) rfl
            simpa using this
    · have h6 : D.length = 6 := by omega
      have HR : Hid (setP s.data.toList = none) := by
        show _ = _
        rw [HS.out, h6]; rfl
      have h6' : (D.length : Int) = 6 := by omega
      clear h6
      go_wp2
      refine bodyPost_ret (v := .tuple #[.slice (some ⟨wr.heap.size, 0, none⟩) 0 0, .bool false]) (by simp [results, Tryz.results46, go_sem]) rfl ⟨_, by rw [HR.out]; rfl, HK.out.alloc _, ?_⟩
      rw [HR.out]
      have := World.ownsRow_made wr #[] 0 (e := 85) (size := 2) (base := w.heap.size) HK.out.size (Nat.zero_le _) rfl
      simpa using this
end Go.Proofs.YtoleonldkifcbaaGreatDoor
