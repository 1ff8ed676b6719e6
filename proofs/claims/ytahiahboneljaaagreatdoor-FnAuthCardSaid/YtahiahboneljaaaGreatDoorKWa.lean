/- The walks of names, domains, addresses and paths (both sides). -/
import Derived.Test.YtahiahboneljaaaGreatDoorRows
import Derived.Test.YtahiahboneljaaaGreatDoorKB
import Derived.Test.YtahiahboneljaaaGreatDoorKP
import Derived.WalkLawsBesides
import Derived.Deep.QuietTactic
import Derived.BigQuiet
import Derived.RegionTactic
namespace Go.Proofs.YtahiahboneljaaaGreatDoor
open Go.RowKit

theorem l6In_any (n lo hi : Int) (w : World) :
    Calls Tryz.prog 51 #[.int .i64 n, .int .i64 lo, .int .i64 hi] w fun e w' => e = .returned (.bool (decide (lo ≤ n) && decide (n ≤ hi))) ∧ w' = w := by
  go_enter Tryz.func51, Tryz.ntmps51
  go_wp2
  all_goals
    go_ret
    simp [*]
  omega

theorem done_any (b : Nat) (s : ByteArray) (k : Nat) (w : World) (h0 : w.cell? ⟨b, 0, none⟩ = some (.string s)) (h1 : w.cell? ⟨b, 1, none⟩ = some (.int .i64 k)) :
    Calls Tryz.prog 43 #[.pointer (some ⟨b, 0, none⟩)] w fun e w' => e = .returned (.bool (decide (k = s.size))) ∧ ∃ n, w' = w.drewN n := by
  go_enter Tryz.func43, Tryz.ntmps43
  go_wp2
  go_quiet (fail)
  go_wp2
  go_ret
  refine ⟨ret_bool ?_, nq, rfl⟩
  rw [Bool.eq_iff_iff]
  simp
  omega

theorem done_no (b : Nat) (s : ByteArray) (k n : Nat) (w : World) (h0 : w.cell? ⟨b, 0, none⟩ = some (.string s)) (h1 : w.cell? ⟨b, 1, none⟩ = some (.int .i64 k)) (hk : k < s.size) :
    Calls Tryz.prog 43 #[.pointer (some ⟨b, 0, none⟩)] (w.drewN n) fun e w' => e = .returned (.bool false) ∧ ∃ m, w' = w.drewN m :=
  Calls.quiet_of ((done_any b s k (w.drewN n) h0 h1).mono fun e w' ⟨h, h'⟩ => ⟨by rw [h, decide_eq_false (by omega)], h'⟩)
theorem done_yes (b : Nat) (s : ByteArray) (k n : Nat) (w : World) (h0 : w.cell? ⟨b, 0, none⟩ = some (.string s)) (h1 : w.cell? ⟨b, 1, none⟩ = some (.int .i64 k)) (hk : ¬ k < s.size) (hk' : k ≤ s.size) :
    Calls Tryz.prog 43 #[.pointer (some ⟨b, 0, none⟩)] (w.drewN n) fun e w' => e = .returned (.bool true) ∧ ∃ m, w' = w.drewN m :=
  Calls.quiet_of ((done_any b s k (w.drewN n) h0 h1).mono fun e w' ⟨h, h'⟩ => ⟨by rw [h, decide_eq_true (by omega)], h'⟩)

theorem nameByte_any (c : Int) (h0 : 0 ≤ c) (h1 : c < 256) (w : World) :
    Calls Tryz.prog 78 #[.int .u8 c] w fun e w' => e = .returned (.bool (decide (97 ≤ c ∧ c ≤ 122 ∨ 48 ≤ c ∧ c ≤ 57))) ∧ w' = w := by
  go_enter Tryz.func78, Tryz.ntmps78
  go_wp2
  all_goals
    go_ret
    first | (simp; omega) | (simp [*]; done) | (simp [*]; omega)

theorem nameByte_of (c : UInt8) (w : World) :
    Calls Tryz.prog 78 #[.int .u8 c.toNat] w fun e w' => e = .returned (.bool (nmB c)) ∧ w' = w := by
  rw [nmB_iff]; exact nameByte_any _ (by omega) (byte_lt c) w

theorem name_any (b : Nat) (s : ByteArray) (k : Nat) (t : TypeId) (w : World) (hs : s.size ≤ maxLen) (hk : k ≤ s.size) (hb : w.heap[b]? = some (.cells #[.string s, .int .i64 k] t (0, 0))) :
    Calls Tryz.prog 61 #[.pointer (some ⟨b, 0, none⟩)] w fun e w' =>
      e = .returned (.tuple #[.string (s.extract k (nmEnd s.data.toList k)), .bool (decide (1 ≤ nmEnd s.data.toList k - k ∧ nmEnd s.data.toList k - k ≤ 8))]) ∧
      Kept [b] w w' ∧ w'.heap[b]? = some (.cells #[.string s, .int .i64 (nmEnd s.data.toList k)] t (0, 0)) := by
  unfold maxLen at hs
  have hc0 := cell_of_block hb 0
  have hc1 := cell_of_block hb 1
  simp at hc0 hc1
  go_enter Tryz.func61, Tryz.ntmps61
  go_wp2
  go_loopg [] (s.size - k) (fun m wr => ∃ j : Nat, m = s.size - j ∧ k ≤ j ∧ j ≤ s.size ∧ nmEnd s.data.toList k = nmEnd s.data.toList j ∧ Kept [b] w wr ∧ wr.heap[b]? = some (.cells #[.string s, .int .i64 j] t (0, 0)))
  case atStart => exact ⟨k, rfl, Nat.le_refl _, hk, rfl, Kept.refl _ _, hb⟩
  case round =>
    obtain ⟨j, hm, hkj, hj, he, hK, hbj⟩ := hrel
    have HM := hid hm
    have HE := hid he
    clear hm he hb hc0 hc1
    have hc0 := cell_of_block hbj 0
    have hc1 := cell_of_block hbj 1
    have hf1 := frozen_of_block hbj 1
    have Hbj := hid hbj
    clear hbj
    simp at hc0 hc1
    by_cases hlt : j < s.size
    · by_cases hn : nmB s[j] = true
      · go_wp2
        go_quiet (first | (go_at_call 43; exact done_no b s j _ _ hc0 hc1 hlt) | (go_at_call 78; exact (nameByte_of _ _).quiet_of_same))
        go_wp2
        go_roundg (s.size - (j + 1))
        case rel => exact ⟨j + 1, rfl, by omega, by omega, by rw [HE.out]; exact nmEnd_step _ _ (by simpa using hlt) hn, (hK.drewN _).setCell _ _ (by simp), set_of_blockN Hbj.out _⟩
        case measure => have := HM.out; omega
      · have hn' : nmB s[j] = false := by simpa using hn
        have hj' : nmEnd s.data.toList k = j := by rw [HE.out]; exact nmEnd_stop _ _ (by simpa using hlt) hn'
        have HJ := hid hj'
        clear hj' hn
        go_wp2
        go_quiet (first | (go_at_call 43; exact done_no b s j _ _ hc0 hc1 hlt) | (go_at_call 78; exact (nameByte_of _ _).quiet_of_same))
        go_wp2
        by_cases h1 : (1 : Int) ≤ (j : Int) - k
        · go_quiet (fail)
          go_wp2
          go_ret2
          refine ⟨ret_sb (by rw [HJ.out]) ?_, by first | exact hK.drewN _ | exact (hK.drewN _).drewN _, by rw [HJ.out]; exact Hbj.out⟩
          rw [HJ.out, Bool.eq_iff_iff]; simp; omega
        · have h1' : decide ((1 : Int) ≤ (j : Int) - k) = false := by simpa using h1
          go_quiet (fail)
          go_wp2
          go_ret2
          refine ⟨ret_sb (by rw [HJ.out]) ?_, by first | exact hK.drewN _ | exact (hK.drewN _).drewN _, by rw [HJ.out]; exact Hbj.out⟩
          rw [HJ.out, Bool.eq_iff_iff]; simp; omega
    · obtain rfl : j = s.size := by omega
      have hj' : nmEnd s.data.toList k = s.size := by rw [HE.out]; exact nmEnd_end _
      have HJ := hid hj'
      clear hj'
      go_wp2
      go_quiet ((go_at_call 43; exact done_yes b s s.size _ _ hc0 hc1 hlt hj))
      go_wp2
      by_cases h1 : (1 : Int) ≤ (s.size : Int) - k
      · go_quiet (fail)
        go_wp2
        go_ret2
        refine ⟨ret_sb (by rw [HJ.out]) ?_, by first | exact hK.drewN _ | exact (hK.drewN _).drewN _, by rw [HJ.out]; exact Hbj.out⟩
        rw [HJ.out, Bool.eq_iff_iff]; simp; omega
      · have h1' : decide ((1 : Int) ≤ (s.size : Int) - k) = false := by simpa using h1
        go_quiet (fail)
        go_wp2
        go_ret2
        refine ⟨ret_sb (by rw [HJ.out]) ?_, by first | exact hK.drewN _ | exact (hK.drewN _).drewN _, by rw [HJ.out]; exact Hbj.out⟩
        rw [HJ.out, Bool.eq_iff_iff]; simp; omega

/-- name, at k: the new place has a name of its own. -/
theorem name_call (b : Nat) (s : ByteArray) (k : Nat) (t : TypeId) (w : World) (hs : s.size ≤ maxLen) (hk : k ≤ s.size) (hb : w.heap[b]? = some (.cells #[.string s, .int .i64 k] t (0, 0))) :
    Calls Tryz.prog 61 #[.pointer (some ⟨b, 0, none⟩)] w fun e w' =>
      e = .returned (.tuple #[.string (bs ((s.data.toList.drop k).take (nmLen (s.data.toList.drop k)))), .bool (nmGood (s.data.toList.drop k))]) ∧
      Kept [b] w w' ∧ ∃ j : Nat, j = k + nmLen (s.data.toList.drop k) ∧ j ≤ s.size ∧ w'.heap[b]? = some (.cells #[.string s, .int .i64 j] t (0, 0)) := by
  have hle := nmEnd_le s.data.toList k (by simpa using hk)
  refine (name_any b s k t w hs hk hb).mono fun e w' ⟨h1, h2, h3⟩ => ⟨?_, h2, nmEnd s.data.toList k, rfl, by simpa using hle, h3⟩
  rw [h1, extract_bs]
  refine ret_sb (by unfold nmEnd; rw [Nat.add_sub_cancel_left]) ?_
  unfold nmEnd nmGood
  rw [Bool.eq_iff_iff]; simp; try omega

theorem take_no (b : Nat) (s : ByteArray) (k : Nat) (c : Int) (u : UInt8) (t : TypeId) (w : World) (_hs : s.size ≤ maxLen) (hk : k ≤ s.size) (hc : c = u.toNat) (hu : (s.data.toList.drop k).head? ≠ some u)
    (hb : w.heap[b]? = some (.cells #[.string s, .int .i64 k] t (0, 0))) :
    Calls Tryz.prog 68 #[.pointer (some ⟨b, 0, none⟩), .int .u8 c] w fun e w' => e = .returned (.bool false) ∧ ∃ n, w' = w.drewN n := by
  unfold maxLen at _hs
  have hc0 := cell_of_block hb 0
  have hc1 := cell_of_block hb 1
  simp at hc0 hc1
  subst hc
  by_cases hlt : k < s.size
  · have hne : s[k] ≠ u := by
      intro e; apply hu; rw [List.head?_drop]; simp [hlt]; exact e
    have hne' : ((s[k].toNat : Int) != (u.toNat : Int)) = true := by
      rw [bne_iff_ne]; intro e; exact hne (UInt8.toNat_inj.1 (by omega))
    have HN := hid hne
    clear hu hne hb
    go_enter Tryz.func68, Tryz.ntmps68
    go_wp2
    go_quiet ((go_at_call 43; exact done_no b s k _ _ hc0 hc1 hlt))
    go_wp2
    go_ret
    exact ⟨rfl, nq, rfl⟩
  · obtain rfl : k = s.size := by omega
    clear hu hb
    go_enter Tryz.func68, Tryz.ntmps68
    go_wp2
    go_quiet ((go_at_call 43; exact done_yes b s s.size _ _ hc0 hc1 hlt hk))
    go_wp2
    go_ret
    exact ⟨rfl, nq, rfl⟩

theorem take_yes (b : Nat) (s : ByteArray) (k : Nat) (c : Int) (u : UInt8) (t : TypeId) (w : World) (hs : s.size ≤ maxLen) (hc : c = u.toNat) (hu : (s.data.toList.drop k).head? = some u)
    (hb : w.heap[b]? = some (.cells #[.string s, .int .i64 k] t (0, 0))) :
    Calls Tryz.prog 68 #[.pointer (some ⟨b, 0, none⟩), .int .u8 c] w fun e w' => e = .returned (.bool true) ∧ Kept [b] w w' ∧ ∃ j : Nat, j = k + 1 ∧ j ≤ s.size ∧ w'.heap[b]? = some (.cells #[.string s, .int .i64 j] t (0, 0)) := by
  unfold maxLen at hs
  have hc0 := cell_of_block hb 0
  have hc1 := cell_of_block hb 1
  have hf1 := frozen_of_block hb 1
  simp at hc0 hc1
  subst hc
  have hlt : k < s.size := by
    rcases Nat.lt_or_ge k s.size with h | h
    · exact h
    · rw [List.drop_eq_nil_of_le (by simpa using h)] at hu; simp at hu
  have hne : s[k] = u := by
    rw [List.head?_drop] at hu; simp [hlt] at hu; exact hu
  have hne' : ((s[k].toNat : Int) != (u.toNat : Int)) = false := by
    simp [hne]
  have HB := hid hb
  clear hu hne hb
  go_enter Tryz.func68, Tryz.ntmps68
  go_wp2
  go_quiet ((go_at_call 43; exact done_no b s k _ _ hc0 hc1 hlt))
  go_wp2
  go_ret
  exact ⟨rfl, ((Kept.refl _ _).drewN _).setCell _ _ (by simp), k + 1, rfl, hlt, set_of_blockN HB.out _⟩

theorem iNameValid_any (s : ByteArray) (w : World) (hs : s.size ≤ maxLen) :
    Calls Tryz.prog 32 #[.string s] w fun e w' => e = .returned (.bool (isName s.data.toList)) ∧ Kept [] w w' := by
  by_cases hg : nmGood s.data.toList = true
  · have HI := hid (isName_good hg)
    go_enter Tryz.func32, Tryz.ntmps32
    go_wp2_with fail
    refine (name_call w.heap.size s 0 _ _ hs (Nat.zero_le _) (new_block _ _)).mono ?_
    rintro e w1 ⟨rfl, hK, j, hj, hjs, hb⟩
    have HJ := hid hj
    clear hj
    have hc0 := cell_of_block hb 0
    have hc1 := cell_of_block hb 1
    simp at hc0 hc1
    simp only [List.drop_zero]
    go_wp2_with fail
    refine (done_any _ s j w1 hc0 hc1).mono ?_
    rintro e w2 ⟨rfl, n, rfl⟩
    go_wp2
    go_ret
    refine ⟨ret_bool ?_, (((Kept.refl [] w).alloc _).trans' hK (by simp) (by simp)).drewN _⟩
    have := HJ.out
    simp at this
    rw [HI.out, this, show s.data.toList.length = s.size by simp]
  · have hg' : nmGood s.data.toList = false := by simpa using hg
    have HI := hid (isName_bad hg')
    clear hg
    go_enter Tryz.func32, Tryz.ntmps32
    go_wp2_with fail
    refine (name_call w.heap.size s 0 _ _ hs (Nat.zero_le _) (new_block _ _)).mono ?_
    rintro e w1 ⟨rfl, hK, -⟩
    simp only [List.drop_zero]
    have HK := hid hK
    rw [hg']
    clear hK hg'
    go_wp2
    go_ret
    have hK := HK.out
    exact ⟨ret_bool HI.out.symm, ((Kept.refl [] w).alloc _).trans' hK (by simp) (by simp)⟩

theorem sNameValid_any (s : ByteArray) (w : World) (hs : s.size ≤ maxLen) :
    Calls Tryz.prog 53 #[.string s] w fun e w' => e = .returned (.bool (isName s.data.toList)) ∧ w' = w := by
  unfold maxLen at hs
  go_enter Tryz.func53, Tryz.ntmps53
  go_wp2
  go_loopg [3] s.size (fun m i wr => ∃ k : Nat, m = s.size - k ∧ k ≤ s.size ∧ i = .int .i64 k ∧ (s.data.toList.take k).all nmB = true ∧ wr = w)
  case atStart => exact ⟨0, rfl, Nat.zero_le _, rfl, rfl, rfl⟩
  case round =>
    obtain ⟨k, hm, hk, rfl, hall, rfl⟩ := hrel
    have HM := hid hm
    have HA := hid hall
    clear hm hall
    by_cases hlt : k < s.size
    · have hb := nmB_iff s[k]
      have HB := hid hb
      clear hb
      have hno : nmB s[k] = false → isName s.data.toList = false := fun hb => by
        rw [← Bool.not_eq_true]; intro h
        have := List.all_eq_true.1 (isName_all h) s[k] (by rw [byte_at]; exact List.getElem_mem _)
        rw [hb] at this; cases this
      have HN := hid hno
      clear hno
      have hyes : nmB s[k] = true → (s.data.toList.take (k + 1)).all nmB = true := fun hb => by
        rw [List.take_succ_eq_append_getElem (by simpa using hlt), List.all_append, HA.out]
        simp; exact hb
      have HY := hid hyes
      clear hyes
      go_wp2
      all_goals first
        | (go_roundg (s.size - (k + 1))
           case rel => exact ⟨k + 1, rfl, by omega, by go_num, HY.out (by rw [HB.out, decide_eq_true_iff]; first | omega | (rcases ‹_ ∨ _› with h1 | h1 <;> simp at h1 <;> omega) | (have h9 := ‹(!decide _) = false›; simp at h9; omega)), rfl⟩
           case measure => have := HM.out; omega)
        | (go_ret
           refine ⟨ret_bool ?_, rfl⟩
           rw [HN.out (by rw [HB.out, decide_eq_false_iff_not]; first | omega | (obtain ⟨h1, h2⟩ := ‹_ ∧ _›; simp at h1 h2; omega) | (rename_i h1 h2; simp at h1 h2; omega) | (rename_i h2 h1; simp at h1; omega) | (simp only [Bool.not_eq_true', decide_eq_false_iff_not] at *; omega))])
    · obtain rfl : k = s.size := by omega
      have hall : s.data.toList.all nmB = true := by have := HA.out; rwa [List.take_of_length_le (by simp)] at this
      have HL := hid hall
      clear hall
      go_wp2_with (go_at_call 51; refine (l6In_any _ _ _ _).mono ?_; rintro e w' ⟨rfl, rfl⟩)
      go_ret
      refine ⟨ret_bool ?_, rfl⟩
      unfold isName
      rw [HL.out, Bool.eq_iff_iff]
      simp
      omega
end Go.Proofs.YtahiahboneljaaaGreatDoor
namespace Go.Proofs.YtahiahboneljaaaGreatDoor
open Go.RowKit

theorem inf_string : (Tryz.prog.info? 9).map (fun i => (i.zero, i.size, i.bytes)) = some (some (.string ⟨#[]⟩), 1, 16) := by kernel_rfl

/-- append of one string to a row of the call's own. -/
theorem append_str {ops : Array Oper} {rest : List Oper} {o : Oper} {a : Act} {w : World} {Q : Exit → Act → World → Prop} (hgd : o.guard = none) (s x : Operand)
    (ho : o.op = .call { callee := .builtin .append, args := #[s, x], argTypes := #[23, 23] })
    (base : Nat) (v : Value) (n : Nat) (xs : List Value) (hs : a.eval s = v) (hown : w.ownsRow base 9 1 v n xs)
    (g : Nat) (y : ByteArray) (hx : a.eval x = .slice (some ⟨g, 0, none⟩) 1 1) (hy : w.cell? ⟨g, 0, none⟩ = some (.string y)) (hn : n ≤ bigN) (hbase : base ≤ w.heap.size)
    (h : ∀ v' w', w'.ownsRow base 9 1 v' (n + 1) (xs ++ [.string y]) → w.grownBy w' v.ownBlock → wpList Tryz.prog ops Q rest (a.put o.dst v') w') : wpList Tryz.prog ops Q (o :: rest) a w := by
  obtain ⟨i0, hi, hz0, hz1, hz2⟩ := info_parts inf_string
  refine wpList_append_own w hgd s x 23 ho base 9 i0 _ 1 16 Tryz.underlying23 hi hz0 hz1 hz2 rfl (by decide) v n xs hs hown ⟨g, 0, none⟩ 1 1 [.string y] hx rfl ?_ ?_ ?_ ?_ hbase (fun v' w' h1 h2 _ => h v' w' h1 h2)
  · intro j u hj
    cases j with
    | zero => simp at hj; subst hj; simpa [Addr.add] using hy
    | succ j => simp at hj
  · simp [Value.oneCell']
  · unfold bigN at hn; unfold maxLen; omega
  · unfold bigN at hn; omega

/-- The string value of a list of bytes. -/
def sv (l : List UInt8) : Value := .string (bs l)

theorem own_open {w : World} {base : Nat} {e : TypeId} {size : Nat} {v : Value} {n : Nat} {xs : List Value} (h : w.ownsRow base e size v n xs) (hn : 0 < n) :
    ∃ g cap, v = .slice (some ⟨g, 0, none⟩) n cap ∧ base ≤ g ∧ g < w.heap.size ∧ n ≤ cap ∧ cap ≤ maxLen ∧ ∀ j, w.cell? ⟨g, j, none⟩ = xs[j]? ∨ n * size ≤ j := by
  obtain ⟨h1, h2⟩ := h
  rcases h2 with ⟨_, h0⟩ | ⟨g, cap, cur, hv, hg, hh, hc, hm, hs, ht⟩
  · omega
  · refine ⟨g, cap, hv, hg, lt_of_block hh, hc, hm, fun j => ?_⟩
    rcases Nat.lt_or_ge j (n * size) with hj | hj
    · left
      rw [cell_of_block hh, ← ht, List.getElem?_take_of_lt hj]
      simp
    · exact .inr hj

theorem l1Cut_any (s : ByteArray) (c : Int) (u : UInt8) (hc : c = u.toNat) (w : World) (hs : s.size ≤ bigN) :
    Calls Tryz.prog 54 #[.string s, .int .u8 c] w fun e w' => ∃ v, e = .returned v ∧ w'.ownsRow w.heap.size 9 1 v (cutB u s.data.toList).length ((cutB u s.data.toList).map sv) ∧ Kept [] w w' := by
  subst hc
  have hs' := Nat.le_trans hs bigN_le
  unfold maxLen at hs'
  go_enter Tryz.func54, Tryz.ntmps54
  go_wp2
  go_loopg [5, 6, 7] s.size (fun m v fr i wr => ∃ (k f : Nat) (D : List (List UInt8)), m = s.size - k ∧ k ≤ s.size ∧ f ≤ k ∧ fr = .int .i64 f ∧ i = .int .i64 k ∧ D.length ≤ k ∧
      cutB u s.data.toList = D ++ cutB u (s.data.toList.drop f) ∧ u ∉ (s.data.toList.drop f).take (k - f) ∧ wr.ownsRow w.heap.size 9 1 v D.length (D.map sv) ∧ Kept [] w wr)
  case atStart =>
    exact ⟨0, 0, [], rfl, Nat.zero_le _, Nat.le_refl _, rfl, rfl, Nat.le_refl _, by simp, by simp, World.ownsRow_made w #[] 0 (Nat.le_refl _) (Nat.zero_le _) rfl, (Kept.refl _ _).alloc _⟩
  case round =>
    obtain ⟨k, f, D, hm, hk, hf, rfl, rfl, hD, hcut, hno, hown, hK⟩ := hrel
    have HM := hid hm
    have HC := hid hcut
    have HN := hid hno
    have HK := hid hK
    clear hm hcut hno hK
    by_cases hlt : k < s.size
    · by_cases hb : s[k] = u
      · have hb' : ((s[k].toNat : Int) == (u.toNat : Int)) = true := by simp [hb]
        have HB := hid hb
        clear hb
        go_wp2_with (at_builtin; refine append_str rfl (.tmp 20) (.tmp 25) rfl w.heap.size u5 D.length (D.map sv) rfl (hown.alloc _) wr.heap.size (s.extract f k) rfl (cell_new1 _ _ _) (by omega) (le_alloc HK.out.size _) ?_; intro v' w1 hown1 hgrow)
        go_roundg (s.size - (k + 1))
        case measure => have := HM.out; omega
        case rel =>
          refine ⟨k + 1, k + 1, D ++ [(s.data.toList.drop f).take (k - f)], rfl, by omega, Nat.le_refl _, by go_num, by go_num, by simp; omega, ?_, by simp, ?_, ?_⟩
          · have h1 : s.data.toList.drop f = (s.data.toList.drop f).take (k - f) ++ u :: s.data.toList.drop (k + 1) := by
              have h2 := List.take_append_drop (k - f) (s.data.toList.drop f)
              rw [List.drop_drop, show f + (k - f) = k by omega, List.drop_eq_getElem_cons (i := k) (by simpa using hlt)] at h2
              rw [show s.data.toList[k]'(by simpa using hlt) = u from HB.out] at h2
              exact h2.symm
            rw [HC.out]
            conv => lhs; rw [h1]
            rw [cutB_free _ _ _ HN.out]; simp
          · simp only [List.map_append, List.map_cons, List.map_nil, List.length_append, List.length_cons, List.length_nil]
            unfold sv; rw [← extract_bs]; exact hown1
          · exact (HK.out.alloc _).own (hown.alloc _) hgrow (Nat.le_refl _)
      · have hb' : ((s[k].toNat : Int) == (u.toNat : Int)) = false := by
          rw [beq_eq_false_iff_ne]; intro e; exact hb (UInt8.toNat_inj.1 (by omega))
        have HB := hid hb
        clear hb
        go_wp2
        go_roundg (s.size - (k + 1))
        case measure => have := HM.out; omega
        case rel =>
          refine ⟨k + 1, f, D, rfl, by omega, by omega, rfl, by go_num, by omega, HC.out, ?_, hown, HK.out⟩
          rw [show k + 1 - f = (k - f) + 1 by omega, List.take_succ_eq_append_getElem (by simp; omega)]
          simp only [List.mem_append, List.mem_singleton, not_or, List.getElem_drop]
          refine ⟨HN.out, fun e => HB.out ?_⟩
          rw [e, byte_at]
          simp only [show f + (k - f) = k by omega]
    · obtain rfl : k = s.size := by omega
      have hfin : cutB u (s.data.toList.drop f) = [s.data.toList.drop f] := cutB_none _ _ (by
        have := HN.out; rwa [List.take_of_length_le (by simp)] at this)
      have HF := hid hfin
      clear hfin
      go_wp2_with (at_builtin; refine append_str rfl (.tmp 29) (.tmp 33) rfl w.heap.size u5 D.length (D.map sv) rfl (hown.alloc _) wr.heap.size (s.extract f s.size) rfl (cell_new1 _ _ _) (by omega) (le_alloc HK.out.size _) ?_; intro v' w1 hown1 hgrow)
      go_ret
      refine ⟨v', rfl, ?_, (HK.out.alloc _).own (hown.alloc _) hgrow (Nat.le_refl _)⟩
      rw [HC.out, HF.out]
      simp only [List.map_append, List.map_cons, List.map_nil, List.length_append, List.length_cons, List.length_nil]
      have he : s.extract f s.size = bs (s.data.toList.drop f) := by
        rw [extract_bs, List.take_of_length_le (by simp)]
      unfold sv at *; rw [← he]; exact hown1

/-- What a row of strings holds. -/
theorem own_strs {w : World} {base : Nat} {v : Value} {L : List (List UInt8)} (h : w.ownsRow base 9 1 v L.length (L.map sv)) (hn : 0 < L.length) :
    ∃ g cap, v = .slice (some ⟨g, 0, none⟩) L.length cap ∧ base ≤ g ∧ g < w.heap.size ∧ ∀ j (hj : j < L.length), w.cell? ⟨g, j, none⟩ = some (.string (bs L[j])) := by
  obtain ⟨g, cap, hv, hg, hh, _, _, hc⟩ := own_open h hn
  refine ⟨g, cap, hv, hg, hh, fun j hj => ?_⟩
  rcases hc j with h1 | h1
  · rw [h1]; simp [hj, sv]
  · omega

theorem sDomainValid_any (s : ByteArray) (w : World) (hs : s.size ≤ bigN) :
    Calls Tryz.prog 29 #[.string s] w fun e w' => e = .returned (.bool (isDomain s.data.toList)) ∧ Kept [] w w' := by
  have hs' := Nat.le_trans hs bigN_le
  have HD := hid (isDomain_def s.data.toList)
  have hpos := cutB_pos 46 s.data.toList
  have hlen := cutB_len 46 s.data.toList
  have hpart := cutB_part 46 s.data.toList
  have hsz : s.data.toList.length = s.size := by simp
  unfold maxLen at hs'
  go_enter Tryz.func29, Tryz.ntmps29
  go_wp2_with fail
  refine (l1Cut_any s 46 46 rfl w hs).mono ?_
  rintro e w1 ⟨v, rfl, hown, hK⟩
  generalize cutB 46 s.data.toList = L at hown HD hpos hlen hpart
  obtain ⟨g, cap, rfl, hg, hgs, hcell⟩ := own_strs hown hpos
  have hll : L.length ≤ 2 ^ 63 - 1 := by unfold bigN at hs; omega
  have HP : Hid (∀ p ∈ L, p.length ≤ s.size) := fun p hp => by have := hpart p hp; omega
  have HC := hid hcell
  have HZ := hid hsz
  clear hown hcell hpart hsz hlen
  go_wp2
  go_loopg [4] L.length (fun m i wr => ∃ k : Nat, m = L.length - k ∧ k ≤ L.length ∧ i = .int .i64 k ∧ (L.take k).all isName = true ∧ wr = w1)
  case atStart => exact ⟨0, rfl, Nat.zero_le _, rfl, rfl, rfl⟩
  case round =>
    obtain ⟨k, hm, hk, rfl, hall, rfl⟩ := hrel
    have HM := hid hm
    have HA := hid hall
    clear hm hall
    by_cases hlt : k < L.length
    · have hc := HC.out k hlt
      by_cases hn : isName L[k] = true
      · go_wp2_with (go_at_call 53; refine (sNameValid_any _ _ (by rw [bs_size]; have := HP.out L[k] (List.getElem_mem _); unfold maxLen; omega)).mono ?_; rintro e w' ⟨rfl, rfl⟩; simp only [bs_toList])
        go_roundg (L.length - (k + 1))
        case measure => have := HM.out; omega
        case rel => exact ⟨k + 1, rfl, by omega, by go_num, by rw [List.take_succ_eq_append_getElem hlt, List.all_append, HA.out]; simp [hn], rfl⟩
      · have hn' : isName L[k] = false := by simpa using hn
        have hf : L.all isName = false := by
          rw [← Bool.not_eq_true]; intro h; exact hn (List.all_eq_true.1 h _ (List.getElem_mem _))
        have HF := hid hf
        clear hn hf
        go_wp2_with (go_at_call 53; refine (sNameValid_any _ _ (by rw [bs_size]; have := HP.out L[k] (List.getElem_mem _); unfold maxLen; omega)).mono ?_; rintro e w' ⟨rfl, rfl⟩; simp only [bs_toList])
        go_ret
        refine ⟨ret_bool ?_, hK⟩
        rw [HD.out, HF.out]; simp
    · obtain rfl : k = L.length := by omega
      have hall : L.all isName = true := by have := HA.out; rwa [List.take_length] at this
      have HL := hid hall
      clear hall
      go_wp2
      all_goals
        go_ret
        refine ⟨ret_bool ?_, hK⟩
        rw [HD.out, HL.out, HZ.out, Bool.eq_iff_iff]
        simp; try omega

/-- The two names of an address, as a value. -/
def adv (u d : List UInt8) : Value := .agg #[sv u, sv d]

/-- What domain hands back at a text's rest. -/
def domRes (r : List UInt8) : Value := match domLen r with
  | none => .tuple #[.string ⟨#[]⟩, .bool false]
  | some d => .tuple #[.string (bs (r.take d)), .bool (decide (d ≤ 20))]
theorem domRes_none {r : List UInt8} (h : domLen r = none) : Ending.returned (.tuple #[.string ⟨#[]⟩, .bool false]) = .returned (domRes r) := by unfold domRes; rw [h]
theorem domRes_some {r : List UInt8} {d : Nat} (h : domLen r = some d) {s : ByteArray} {x : Bool} (h1 : s = bs (r.take d)) (h2 : x = decide (d ≤ 20)) : Ending.returned (.tuple #[.string s, .bool x]) = .returned (domRes r) := by unfold domRes; rw [h, h1, h2]

set_option maxHeartbeats 800000 in
theorem dom_call (b : Nat) (s : ByteArray) (k : Nat) (t : TypeId) (w : World) (hs : s.size ≤ bigN) (hk : k ≤ s.size) (hb : w.heap[b]? = some (.cells #[.string s, .int .i64 k] t (0, 0))) :
    Calls Tryz.prog 42 #[.pointer (some ⟨b, 0, none⟩)] w fun e w' => e = .returned (domRes (s.data.toList.drop k)) ∧ Kept [b] w w' ∧
      ∃ j : Nat, j ≤ s.size ∧ w'.heap[b]? = some (.cells #[.string s, .int .i64 j] t (0, 0)) ∧ ∀ d, domLen (s.data.toList.drop k) = some d → j = k + d := by
  have hs' := Nat.le_trans hs bigN_le
  have hc0 := cell_of_block hb 0
  have hc1 := cell_of_block hb 1
  have HB := hid hb
  clear hb
  simp at hc0 hc1
  by_cases hg : nmGood (s.data.toList.drop k) = true
  · go_enter Tryz.func42, Tryz.ntmps42
    go_wp2_with fail
    refine (name_call b s k _ _ hs' hk HB.out).mono ?_
    rintro e w1 ⟨rfl, hK, j, hj, hjs, hb⟩
    clear hc0 hc1
    have HJ := hid hj
    have HK := hid hK
    have HB1 := hid hb
    clear hj hK hb
    have HG := hid hg
    go_wp2
    clear hg
    unfold maxLen at hs'
    go_loopg [7] 2 (fun m c wr => ∃ (n p : Nat), m = n ∧ n ≤ 2 ∧ c = .int .i64 ((3 - n : Nat) : Int) ∧ p ≤ s.size ∧ k ≤ p ∧ Kept [b] w wr ∧ wr.heap[b]? = some (.cells #[.string s, .int .i64 p] t (0, 0)) ∧
      (domTail n (s.data.toList.drop p)).map (· + (p - k)) = domLen (s.data.toList.drop k))
    case atStart =>
      refine ⟨2, j, rfl, Nat.le_refl _, rfl, hjs, by have := HJ.out; omega, HK.out, HB1.out, ?_⟩
      unfold domLen
      rw [if_pos HG.out, List.drop_drop, ← HJ.out, show j - k = nmLen (s.data.toList.drop k) by have := HJ.out; omega]
    case round =>
      obtain ⟨n, p, hm, hn, rfl, hp, hkp, hK, hb, hd⟩ := hrel
      clear HK HB1 HJ hjs
      have HM := hid hm
      have HK := hid hK
      have HB1 := hid hb
      have HD := hid hd
      clear hm hK hb hd
      by_cases hdot : n ≠ 0 ∧ (s.data.toList.drop p).head? = some 46
      · obtain ⟨hn0, hh⟩ := hdot
        obtain ⟨m, rfl⟩ : ∃ m, n = m + 1 := ⟨n - 1, by omega⟩
        have ht : ((3 - (m + 1) : Nat) : Int) < 3 := by omega
        have HH := hid hh
        clear hh hn0
        have hpl : p < s.size := by
          rcases Nat.lt_or_ge p s.size with h | h
          · exact h
          · have := HH.out; rw [List.drop_eq_nil_of_le (by simpa using h)] at this; simp at this
        have htl : (s.data.toList.drop p).tail = s.data.toList.drop (p + 1) := by simp
        have HT := hid htl
        clear htl
        by_cases hg : nmGood (s.data.toList.drop (p + 1)) = true
        · go_wp2_with fail
          refine (take_yes b s p 46 46 _ wr (by unfold maxLen; exact hs') rfl HH.out HB1.out).mono ?_
          rintro e w2 ⟨rfl, hK2, q, hq, hqs, hb2⟩
          subst hq
          have HK2 := hid hK2
          have HB2 := hid hb2
          clear hK2 hb2
          go_wp2_with fail
          refine (name_call b s (p + 1) _ _ (by unfold maxLen; exact hs') hqs HB2.out).mono ?_
          rintro e w3 ⟨rfl, hK3, q, hq, hqs2, hb3⟩
          have HQ := hid hq
          have HK3 := hid hK3
          have HB3 := hid hb3
          clear hq hK3 hb3
          have HG := hid hg
          go_wp2
          go_roundg m
          case measure => have := HM.out; omega
          case rel =>
            refine ⟨m, q, rfl, by omega, by go_num, hqs2, by have := HQ.out; omega, (HK.out.trans HK2.out).trans HK3.out, HB3.out, ?_⟩
            rw [← HD.out, domTail, if_pos HH.out, HT.out, if_pos HG.out, List.drop_drop, ← HQ.out]
            cases domTail m (s.data.toList.drop q) with
            | none => rfl
            | some x => have := HQ.out; simp; omega
        · have hg' : nmGood (s.data.toList.drop (p + 1)) = false := by simpa using hg
          clear hg
          have hnone : domLen (s.data.toList.drop k) = none := by
            rw [← HD.out, domTail, if_pos HH.out, HT.out, if_neg (by rw [hg']; simp)]; rfl
          have HN := hid hnone
          clear hnone
          go_wp2_with fail
          refine (take_yes b s p 46 46 _ wr (by unfold maxLen; exact hs') rfl HH.out HB1.out).mono ?_
          rintro e w2 ⟨rfl, hK2, q, hq, hqs, hb2⟩
          subst hq
          have HK2 := hid hK2
          have HB2 := hid hb2
          clear hK2 hb2
          go_wp2_with fail
          refine (name_call b s (p + 1) _ _ (by unfold maxLen; exact hs') hqs HB2.out).mono ?_
          rintro e w3 ⟨rfl, hK3, q, -, hqs2, hb3⟩
          have HK3 := hid hK3
          have HB3 := hid hb3
          clear hK3 hb3
          go_wp2
          go_ret2
          exact ⟨domRes_none HN.out, (HK.out.trans HK2.out).trans HK3.out, q, hqs2, HB3.out, fun d hd => by rw [HN.out] at hd; cases hd⟩
      · have hd0 : domLen (s.data.toList.drop k) = some (p - k) := by
          rw [← HD.out]
          cases n with
          | zero => simp [domTail]
          | succ m =>
            have : ¬ (s.data.toList.drop p).head? = some 46 := fun h => hdot ⟨by omega, h⟩
            rw [domTail, if_neg this]; simp
        have HN := hid hd0
        clear hd0
        have hfin : s.extract k p = bs ((s.data.toList.drop k).take (p - k)) := extract_bs _ _ _
        have HF := hid hfin
        clear hfin
        have HDOT := hid hdot
        clear hdot
        have hc0 := cell_of_block HB1.out 0
        have hc1 := cell_of_block HB1.out 1
        simp at hc0 hc1
        by_cases hn0 : n = 0
        · have ht : ¬ ((3 - n : Nat) : Int) < 3 := by omega
          go_wp2
          go_quiet (fail)
          go_wp2
          go_ret2
          refine ⟨domRes_some HN.out HF.out ?_, by exact HK.out.drewN _, p, hp, HB1.out, fun d hd => ?_⟩
          · rw [Bool.eq_iff_iff]; simp; omega
          · rw [HN.out] at hd; injection hd with hd; omega
        · have ht : ((3 - n : Nat) : Int) < 3 := by omega
          go_wp2_with fail
          refine (take_no b s p 46 46 _ wr (by unfold maxLen; exact hs') hp rfl (fun h => HDOT.out ⟨hn0, h⟩) HB1.out).mono ?_
          rintro e w2 ⟨rfl, nd, rfl⟩
          go_wp2
          go_quiet (fail)
          go_wp2
          go_ret2
          refine ⟨domRes_some HN.out HF.out ?_, by first | exact HK.out.drewN _ | exact (HK.out.drewN _).drewN _, p, hp, HB1.out, fun d hd => ?_⟩
          · rw [Bool.eq_iff_iff]; simp; omega
          · rw [HN.out] at hd; injection hd with hd; omega
  · have hg' : nmGood (s.data.toList.drop k) = false := by simpa using hg
    have hnone : domLen (s.data.toList.drop k) = none := by unfold domLen; rw [if_neg hg]
    have HN := hid hnone
    clear hg hnone
    go_enter Tryz.func42, Tryz.ntmps42
    go_wp2_with fail
    refine (name_call b s k _ _ hs' hk HB.out).mono ?_
    rintro e w1 ⟨rfl, hK, j, -, hjs, hb⟩
    have HK := hid hK
    have HB1 := hid hb
    clear hK hb hc0 hc1
    go_wp2
    go_ret2
    exact ⟨domRes_none HN.out, HK.out, j, hjs, HB1.out, fun d hd => by rw [HN.out] at hd; cases hd⟩

theorem iDomainValid_any (s : ByteArray) (w : World) (hs : s.size ≤ bigN) :
    Calls Tryz.prog 25 #[.string s] w fun e w' => e = .returned (.bool (isDomain s.data.toList)) ∧ Kept [] w w' := by
  have HI := hid (isDomain_iff s.data.toList)
  cases hd : domLen s.data.toList with
  | none =>
    have HD := hid hd
    clear hd
    go_enter Tryz.func25, Tryz.ntmps25
    go_wp2_with fail
    refine (dom_call w.heap.size s 0 _ _ hs (Nat.zero_le _) (new_block _ _)).mono ?_
    rintro e w1 ⟨rfl, hK, -⟩
    have HK := hid hK
    clear hK
    rw [List.drop_zero, ← domRes_none HD.out]
    go_wp2
    go_ret
    exact ⟨ret_bool (by rw [HI.out, HD.out]; simp), ((Kept.refl [] w).alloc _).trans' HK.out (by simp) (by simp)⟩
  | some d =>
    have HD := hid hd
    clear hd
    go_enter Tryz.func25, Tryz.ntmps25
    go_wp2_with fail
    refine (dom_call w.heap.size s 0 _ _ hs (Nat.zero_le _) (new_block _ _)).mono ?_
    rintro e w1 ⟨rfl, hK, j, hjs, hb, hj⟩
    have hj' := hj d (by rw [List.drop_zero]; exact HD.out)
    have HJ := hid hj'
    have HK := hid hK
    have hc0 := cell_of_block hb 0
    have hc1 := cell_of_block hb 1
    simp at hc0 hc1
    clear hK hj hj' hb
    rw [List.drop_zero, ← domRes_some HD.out rfl rfl]
    by_cases h20 : d ≤ 20
    · go_wp2_with fail
      refine (done_any _ s j w1 hc0 hc1).mono ?_
      rintro e w2 ⟨rfl, n, rfl⟩
      go_wp2
      go_ret
      refine ⟨ret_bool ?_, (((Kept.refl [] w).alloc _).trans' HK.out (by simp) (by simp)).drewN _⟩
      rw [HI.out, HD.out, show s.data.toList.length = s.size by simp, Bool.eq_iff_iff]
      have := HJ.out
      simp; omega
    · have h20' : decide (d ≤ 20) = false := by simpa using h20
      go_wp2
      go_ret
      refine ⟨ret_bool ?_, ((Kept.refl [] w).alloc _).trans' HK.out (by simp) (by simp)⟩
      rw [HI.out, HD.out, show s.data.toList.length = s.size by simp]
      symm
      rw [← Bool.not_eq_true]
      simp; omega
end Go.Proofs.YtahiahboneljaaaGreatDoor
namespace Go.Proofs.YtahiahboneljaaaGreatDoor
open Go.RowKit

/-- What address hands back at a text's rest. -/
def addrRes (r : List UInt8) : Value := match addr r with
  | none => .tuple #[.agg #[.string ⟨#[]⟩, .string ⟨#[]⟩], .bool false]
  | some (u, d, _) => .tuple #[.agg #[.string (bs u), .string (bs d)], .bool true]
theorem addrRes_none {r : List UInt8} (h : addr r = none) : Ending.returned (.tuple #[.agg #[.string ⟨#[]⟩, .string ⟨#[]⟩], .bool false]) = .returned (addrRes r) := by unfold addrRes; rw [h]
theorem addrRes_some {r u d : List UInt8} {n : Nat} (h : addr r = some (u, d, n)) : Ending.returned (.tuple #[.agg #[.string (bs u), .string (bs d)], .bool true]) = .returned (addrRes r) := by unfold addrRes; rw [h]

set_option maxHeartbeats 800000 in
theorem address_call (b : Nat) (s : ByteArray) (k : Nat) (t : TypeId) (w : World) (hs : s.size ≤ bigN) (hk : k ≤ s.size) (hb : w.heap[b]? = some (.cells #[.string s, .int .i64 k] t (0, 0))) :
    Calls Tryz.prog 105 #[.pointer (some ⟨b, 0, none⟩)] w fun e w' => e = .returned (addrRes (s.data.toList.drop k)) ∧ Kept [b] w w' ∧
      ∃ j : Nat, j ≤ s.size ∧ w'.heap[b]? = some (.cells #[.string s, .int .i64 j] t (0, 0)) ∧ ∀ u d n, addr (s.data.toList.drop k) = some (u, d, n) → j = k + n := by
  have hs' := Nat.le_trans hs bigN_le
  have hbl := lt_of_block hb
  have hne : w.heap.size ∉ [b] := by simp; omega
  have HB := hid (alloc_block hb (Obj.cells #[.string ⟨#[]⟩, .string ⟨#[]⟩] 91))
  have HR := hid (new_block w (Obj.cells #[.string ⟨#[]⟩, .string ⟨#[]⟩] 91))
  have K0 := hid ((Kept.refl [b] w).alloc (Obj.cells #[.string ⟨#[]⟩, .string ⟨#[]⟩] 91))
  clear hb
  by_cases hg : nmGood (s.data.toList.drop k) = true
  · have HG := hid hg
    by_cases hat : ((s.data.toList.drop k).drop (nmLen (s.data.toList.drop k))).head? = some 64
    · have HT := hid hat
      clear hat
      go_enter Tryz.func105, Tryz.ntmps105
      go_wp2_with fail
      refine (name_call b s k _ _ hs' hk HB.out).mono ?_
      rintro e w1 ⟨rfl, hK, j, hj, hjs, hb1⟩
      have HK1 := hid hK
      have HR1 := hid (hK.same HR.out hne)
      have HB1 := hid hb1
      have HJ := hid hj
      clear hK hb1 hj
      go_wp2_with fail
      refine (take_yes b s j 64 64 _ w1 hs' rfl (by rw [HJ.out, ← List.drop_drop]; exact HT.out) HB1.out).mono ?_
      rintro e w2 ⟨rfl, hK, j2, hj2, hjs2, hb2⟩
      have HK2 := hid hK
      have HR2 := hid (hK.same HR1.out hne)
      have HB2 := hid hb2
      have HJ2 := hid hj2
      clear hK hb2 hj2
      go_wp2_with fail
      refine (dom_call b s j2 _ w2 hs hjs2 HB2.out).mono ?_
      rintro e w3 ⟨rfl, hK, j3, hjs3, hb3, hj3⟩
      have HK3 := hid hK
      have hR3 := hK.same HR2.out hne
      have hr0 := cell_of_block hR3 0
      have hr1 := cell_of_block hR3 1
      have hf0 := frozen_of_block hR3 0
      have hf1 := frozen_of_block hR3 1
      have HB3 := hid hb3
      have HJ3 := hid hj3
      have hR3' := hid hR3
      simp at hr0 hr1
      clear hK hb3 hj3 hR3
      have HD : Hid (s.data.toList.drop j2 = (s.data.toList.drop k).drop (nmLen (s.data.toList.drop k) + 1)) := by
        show _ = _
        rw [List.drop_drop, HJ2.out, HJ.out]; congr 1
      cases hd : domLen (s.data.toList.drop j2) with
      | none =>
        have ha : addr (s.data.toList.drop k) = none := by
          unfold addr; rw [if_pos ⟨HG.out, HT.out⟩, ← HD.out, hd]
        have HA := hid ha
        clear ha
        rw [← domRes_none hd]
        clear hd hg
        go_wp2
        refine bodyPost_ret (v := .tuple #[.agg #[.string ⟨#[]⟩, .string ⟨#[]⟩], .bool false]) (by simp [results, Tryz.results105, go_sem, hr0, hr1]) rfl ⟨addrRes_none HA.out, ?_, j3, hjs3, ?_, fun u d n h => by rw [HA.out] at h; cases h⟩
        · exact ((((K0.out.trans HK1.out).trans HK2.out).trans HK3.out).setCell _ _ (by simp)).setCell _ _ (by simp)
        · exact set_other (set_other HB3.out _ _ (by show b ≠ w.heap.size; omega)) _ _ (by show b ≠ w.heap.size; omega)
      | some d =>
        have hd' : j3 = j2 + d := HJ3.out d hd
        have HD' := hid hd'
        clear hd'
        rw [← domRes_some hd rfl rfl]
        have HDL := hid hd
        clear hd hg
        by_cases h20 : d ≤ 20
        · have ha : addr (s.data.toList.drop k) = some ((s.data.toList.drop k).take (nmLen (s.data.toList.drop k)), (s.data.toList.drop j2).take d, nmLen (s.data.toList.drop k) + 1 + d) := by
            unfold addr; rw [if_pos ⟨HG.out, HT.out⟩, ← HD.out, HDL.out]; show (if d ≤ 20 then _ else _) = _; rw [if_pos h20]
          have HA := hid ha
          clear ha
          have h20' : decide (d ≤ 20) = true := by simpa using h20
          go_wp2
          refine bodyPost_ret (v := .tuple #[.agg #[.string (bs ((s.data.toList.drop k).take (nmLen (s.data.toList.drop k)))), .string (bs ((s.data.toList.drop j2).take d))], .bool true]) (by simp [results, Tryz.results105, go_sem, hr0, hr1]) rfl ⟨addrRes_some HA.out, ?_, j3, hjs3, ?_, fun u d n h => ?_⟩
          · exact ((((K0.out.trans HK1.out).trans HK2.out).trans HK3.out).setCell _ _ (by simp)).setCell _ _ (by simp)
          · exact set_other (set_other HB3.out _ _ (by show b ≠ w.heap.size; omega)) _ _ (by show b ≠ w.heap.size; omega)
          · rw [HA.out] at h; injection h with h; injection h with _ h; injection h with _ h
            have := HD'.out; have := HJ2.out; have := HJ.out; omega
        · have ha : addr (s.data.toList.drop k) = none := by
            unfold addr; rw [if_pos ⟨HG.out, HT.out⟩, ← HD.out, HDL.out]; show (if d ≤ 20 then _ else _) = _; rw [if_neg h20]
          have HA := hid ha
          clear ha
          have h20' : decide (d ≤ 20) = false := by simpa using h20
          go_wp2
          refine bodyPost_ret (v := .tuple #[.agg #[.string ⟨#[]⟩, .string ⟨#[]⟩], .bool false]) (by simp [results, Tryz.results105, go_sem, hr0, hr1]) rfl ⟨addrRes_none HA.out, ?_, j3, hjs3, ?_, fun u d n h => by rw [HA.out] at h; cases h⟩
          · exact ((((K0.out.trans HK1.out).trans HK2.out).trans HK3.out).setCell _ _ (by simp)).setCell _ _ (by simp)
          · exact set_other (set_other HB3.out _ _ (by show b ≠ w.heap.size; omega)) _ _ (by show b ≠ w.heap.size; omega)
    · have ha : addr (s.data.toList.drop k) = none := by unfold addr; rw [if_neg (fun h => hat h.2)]
      have HA := hid ha
      have HT := hid hat
      clear ha hat
      go_enter Tryz.func105, Tryz.ntmps105
      go_wp2_with fail
      refine (name_call b s k _ _ hs' hk HB.out).mono ?_
      rintro e w1 ⟨rfl, hK, j, hj, hjs, hb1⟩
      have HK1 := hid hK
      have hR1 := hK.same HR.out hne
      have hr0 := cell_of_block hR1 0
      have hr1 := cell_of_block hR1 1
      have hf0 := frozen_of_block hR1 0
      have hf1 := frozen_of_block hR1 1
      simp at hr0 hr1
      have HB1 := hid hb1
      have HJ := hid hj
      clear hK hb1 hj hR1
      go_wp2_with fail
      refine (take_no b s j 64 64 _ w1 hs' hjs rfl (by rw [HJ.out, ← List.drop_drop]; exact HT.out) HB1.out).mono ?_
      rintro e w2 ⟨rfl, nd, rfl⟩
      go_wp2
      refine bodyPost_ret (v := .tuple #[.agg #[.string ⟨#[]⟩, .string ⟨#[]⟩], .bool false]) (by simp [results, Tryz.results105, go_sem, hr0, hr1]) rfl ⟨addrRes_none HA.out, ?_, j, hjs, ?_, fun u d n h => by rw [HA.out] at h; cases h⟩
      · exact (((K0.out.trans HK1.out).drewN _).setCell _ _ (by simp)).setCell _ _ (by simp)
      · exact set_other (set_other (w := w1.drewN nd) HB1.out _ _ (by show b ≠ w.heap.size; omega)) _ _ (by show b ≠ w.heap.size; omega)
  · have ha : addr (s.data.toList.drop k) = none := by unfold addr; rw [if_neg (fun h => hg h.1)]
    have HA := hid ha
    have hg' : nmGood (s.data.toList.drop k) = false := by simpa using hg
    clear ha hg
    go_enter Tryz.func105, Tryz.ntmps105
    go_wp2_with fail
    refine (name_call b s k _ _ hs' hk HB.out).mono ?_
    rintro e w1 ⟨rfl, hK, j, -, hjs, hb1⟩
    have HK1 := hid hK
    have hR1 := hK.same HR.out hne
    have hr0 := cell_of_block hR1 0
    have hr1 := cell_of_block hR1 1
    have hf0 := frozen_of_block hR1 0
    have hf1 := frozen_of_block hR1 1
    simp at hr0 hr1
    have HB1 := hid hb1
    clear hK hb1 hR1
    go_wp2
    refine bodyPost_ret (v := .tuple #[.agg #[.string ⟨#[]⟩, .string ⟨#[]⟩], .bool false]) (by simp [results, Tryz.results105, go_sem, hr0, hr1]) rfl ⟨addrRes_none HA.out, ?_, j, hjs, ?_, fun u d n h => by rw [HA.out] at h; cases h⟩
    · exact ((K0.out.trans HK1.out).setCell _ _ (by simp)).setCell _ _ (by simp)
    · exact set_other (set_other HB1.out _ _ (by show b ≠ w.heap.size; omega)) _ _ (by show b ≠ w.heap.size; omega)

/-- What a path's parse hands back. -/
def pathRes (x : Option (List UInt8 × List UInt8)) : Value := match x with
  | none => .tuple #[.agg #[.string ⟨#[]⟩, .string ⟨#[]⟩], .bool false]
  | some (u, d) => .tuple #[.agg #[.string (bs u), .string (bs d)], .bool true]
theorem pathRes_none {x : Option (List UInt8 × List UInt8)} (h : x = none) : Ending.returned (.tuple #[.agg #[.string ⟨#[]⟩, .string ⟨#[]⟩], .bool false]) = .returned (pathRes x) := by unfold pathRes; rw [h]
theorem pathRes_some {x : Option (List UInt8 × List UInt8)} {u d : List UInt8} (h : x = some (u, d)) : Ending.returned (.tuple #[.agg #[.string (bs u), .string (bs d)], .bool true]) = .returned (pathRes x) := by unfold pathRes; rw [h]

end Go.Proofs.YtahiahboneljaaaGreatDoor
namespace Go.Proofs.YtahiahboneljaaaGreatDoor
open Go.RowKit

theorem str_eq (s : ByteArray) (l : List UInt8) : (s.toList == l) = decide (s.data.toList = l) := by
  rw [ByteArray.toList_eq, Bool.eq_iff_iff]; simp

set_option maxHeartbeats 1600000 in
theorem iPathParse_any (s : ByteArray) (w : World) (hs : s.size ≤ bigN) :
    Calls Tryz.prog 90 #[.string s] w fun e w' => e = .returned (pathRes (pathOf s.data.toList)) ∧ Kept [] w w' := by
  have hs' := Nat.le_trans hs bigN_le
  by_cases h0 : s.data.toList = [60, 62]
  · have hp : pathOf s.data.toList = some ([], []) := by unfold pathOf; rw [if_pos h0]
    have HP := hid hp
    have h0' : (s.toList == [60, 62]) = true := by rw [str_eq]; simp [h0]
    clear h0 hp
    go_enter Tryz.func90, Tryz.ntmps90
    go_wp2
    refine bodyPost_ret (v := .tuple #[.agg #[.string ⟨#[]⟩, .string ⟨#[]⟩], .bool true]) (by simp [results, Tryz.results90, go_sem]) rfl ⟨pathRes_some HP.out, ?_⟩
    first | exact (Kept.refl _ _).alloc _ | exact (((Kept.refl _ _).alloc _).setCell _ _ (by simp)).setCell _ _ (by simp)
  · have h0' : (s.toList == [60, 62]) = false := by rw [str_eq]; simp [h0]
    have HB := hid (new_block (w.alloc (Obj.cells #[.string ⟨#[]⟩, .string ⟨#[]⟩] 91)) (.cells #[.string s, .int .i64 0] 62))
    have HR := hid (alloc_block (new_block w (Obj.cells #[.string ⟨#[]⟩, .string ⟨#[]⟩] 91)) (.cells #[.string s, .int .i64 0] 62))
    have K0 := hid (((Kept.refl [] w).alloc (Obj.cells #[.string ⟨#[]⟩, .string ⟨#[]⟩] 91)).alloc (.cells #[.string s, .int .i64 0] 62))
    rw [World.size_alloc] at HB
    by_cases hh : s.data.toList.head? = some 60
    · have HH := hid hh
      have H0 := hid h0
      clear hh h0
      go_enter Tryz.func90, Tryz.ntmps90
      go_wp2_with fail
      refine (take_yes _ s 0 60 60 _ _ hs' rfl (by rw [List.drop_zero]; exact HH.out) HB.out).mono ?_
      rintro e w1 ⟨rfl, hK, j, hj, hjs, hb1⟩
      subst hj
      have HK1 := hid (K0.out.newB hK (by omega))
      have HR1 := hid (hK.same HR.out (by simp))
      have HB1 := hid hb1
      clear hK hb1
      go_wp2_with fail
      refine (address_call _ s (0 + 1) _ w1 hs hjs HB1.out).mono ?_
      rintro e w2 ⟨rfl, hK, j, hjs2, hb2, hj⟩
      have HK2 := hid (HK1.out.newB hK (by omega))
      have hR2 := hK.same HR1.out (by simp)
      have hr0 := cell_of_block hR2 0
      have hr1 := cell_of_block hR2 1
      have hf0 := frozen_of_block hR2 0
      have hf1 := frozen_of_block hR2 1
      simp at hr0 hr1
      have hsz := lt_of_block hb2
      have hsz0 : w.heap.size < w2.heap.size := by omega
      have HB2 := hid hb2
      have HR2 := hid hR2
      have HJ := hid hj
      clear hK hb2 hj hR2
      have htl : s.data.toList.drop (0 + 1) = s.data.toList.tail := by simp
      rw [htl] at HJ ⊢
      cases ha : addr s.data.toList.tail with
      | none =>
        clear htl
        have hp : pathOf s.data.toList = none := by unfold pathOf; rw [if_neg H0.out, if_pos HH.out, ha]
        have HP := hid hp
        rw [← addrRes_none ha]
        clear ha hp
        go_wp2
        refine bodyPost_ret (v := .tuple #[.agg #[.string ⟨#[]⟩, .string ⟨#[]⟩], .bool false]) (by simp [results, Tryz.results90, go_sem, hr0, hr1, hsz0]) rfl ⟨pathRes_none HP.out, ?_⟩
        (repeat' with_reducible first | exact HK2.out | refine Kept.alloc ?_ _ | refine Kept.drewN ?_ _ | refine Kept.setCell ?_ _ _ (by simp))
      | some x =>
        obtain ⟨u, d, n⟩ := x
        have hj' := HJ.out u d n ha
        have HA := hid ha
        have HJ' := hid hj'
        rw [← addrRes_some ha]
        clear ha hj'
        by_cases hgt : s.data.toList.tail.drop n = [62]
        · have hp : pathOf s.data.toList = some (u, d) := by unfold pathOf; rw [if_neg H0.out, if_pos HH.out, HA.out]; show (if _ then _ else _) = _; rw [if_pos hgt]
          have HP := hid hp
          have HG := hid hgt
          clear hp hgt
          have hdr : s.data.toList.drop j = [62] := by
            have h1 := HG.out; rw [← htl, List.drop_drop] at h1; rw [HJ'.out]; exact h1
          have HDR := hid hdr
          clear hdr
          clear htl
          go_wp2_with fail
          refine (take_yes _ s j 62 62 _ _ hs' rfl (by rw [HDR.out]; rfl) (alloc_block HB2.out _)).mono ?_
          rintro e w3 ⟨rfl, hK, j3, hj3, hjs3, hb3⟩
          have hz3 := hK.size
          simp at hz3
          have HK3 := hid ((HK2.out.alloc _).newB hK (by omega))
          have hR3 := hK.same (alloc_block HR2.out _) (by simp)
          have hA3 := hK.same (new_block w2 _) (by simp; omega)
          have hr0 := cell_of_block hR3 0
          have hr1 := cell_of_block hR3 1
          have hf0 := frozen_of_block hR3 0
          have hf1 := frozen_of_block hR3 1
          have ha0 := cell_of_block hA3 0
          have ha1 := cell_of_block hA3 1
          have hc0 := cell_of_block hb3 0
          have hc1 := cell_of_block hb3 1
          simp at hr0 hr1 ha0 ha1 hc0 hc1
          have hjz : j3 = s.size := by
            have := congrArg List.length HDR.out
            simp at this; omega
          have HZ := hid hjz
          have HJ3 := hid hj3
          clear hK hb3 hj3 hR3 hA3 hjz
          go_wp2_with fail
          refine (done_any _ s j3 w3 hc0 hc1).mono ?_
          rintro e w4 ⟨rfl, nd, rfl⟩
          rw [HZ.out, decide_eq_true rfl]
          go_wp2
          refine bodyPost_ret (v := .tuple #[.agg #[.string (bs u), .string (bs d)], .bool true]) (by simp [results, Tryz.results90, go_sem, hr0, hr1]) rfl ⟨pathRes_some HP.out, ?_⟩
          (repeat' with_reducible first | exact HK3.out | refine Kept.alloc ?_ _ | refine Kept.drewN ?_ _ | refine Kept.setCell ?_ _ _ (by simp))
        · have hp : pathOf s.data.toList = none := by unfold pathOf; rw [if_neg H0.out, if_pos HH.out, HA.out]; show (if _ then _ else _) = (none : Option (List UInt8 × List UInt8)); rw [if_neg hgt]
          have HP := hid hp
          have HG := hid hgt
          have HT := hid htl
          clear hp hgt htl
          by_cases hg1 : (s.data.toList.drop j).head? = some 62
          · have HG1 := hid hg1
            clear hg1
            go_wp2_with fail
            refine (take_yes _ s j 62 62 _ _ hs' rfl HG1.out (alloc_block HB2.out _)).mono ?_
            rintro e w3 ⟨rfl, hK, j3, hj3, hjs3, hb3⟩
            have hz3 := hK.size
            simp at hz3
            have HK3 := hid ((HK2.out.alloc _).newB hK (by omega))
            have hR3 := hK.same (alloc_block HR2.out _) (by simp)
            have hr0 := cell_of_block hR3 0
            have hr1 := cell_of_block hR3 1
            have hf0 := frozen_of_block hR3 0
            have hf1 := frozen_of_block hR3 1
            have hc0 := cell_of_block hb3 0
            have hc1 := cell_of_block hb3 1
            simp at hr0 hr1 hc0 hc1
            have hjz : j3 ≠ s.size := by
              intro e
              apply HG.out
              rw [← HT.out, List.drop_drop, ← HJ'.out]
              have h1 := List.drop_eq_getElem_cons (i := j) (l := s.data.toList) (by simp; omega)
              have h2 := HG1.out
              rw [h1] at h2 ⊢
              simp at h2
              rw [List.drop_eq_nil_of_le (by simp; omega)]
              simpa using h2
            have HZ := hid hjz
            have HJ3 := hid hj3
            clear hK hb3 hj3 hR3 hjz
            go_wp2_with fail
            refine (done_any _ s j3 w3 hc0 hc1).mono ?_
            rintro e w4 ⟨rfl, nd, rfl⟩
            rw [decide_eq_false HZ.out]
            go_wp2
            refine bodyPost_ret (v := .tuple #[.agg #[.string ⟨#[]⟩, .string ⟨#[]⟩], .bool false]) (by simp [results, Tryz.results90, go_sem, hr0, hr1]) rfl ⟨pathRes_none HP.out, ?_⟩
            (repeat' with_reducible first | exact HK3.out | refine Kept.alloc ?_ _ | refine Kept.drewN ?_ _ | refine Kept.setCell ?_ _ _ (by simp))
          · have HG1 := hid hg1
            clear hg1
            go_wp2_with fail
            refine (take_no _ s j 62 62 _ _ hs' hjs2 rfl HG1.out (alloc_block HB2.out _)).mono ?_
            rintro e w3 ⟨rfl, nd, rfl⟩
            go_wp2
            refine bodyPost_ret (v := .tuple #[.agg #[.string ⟨#[]⟩, .string ⟨#[]⟩], .bool false]) (by simp [results, Tryz.results90, go_sem, hr0, hr1, hsz0]) rfl ⟨pathRes_none HP.out, ?_⟩
            (repeat' with_reducible first | exact HK2.out | refine Kept.alloc ?_ _ | refine Kept.drewN ?_ _ | refine Kept.setCell ?_ _ _ (by simp))
    · have hp : pathOf s.data.toList = none := by unfold pathOf; rw [if_neg h0, if_neg hh]
      have HP := hid hp
      have HH := hid hh
      clear hp hh h0
      go_enter Tryz.func90, Tryz.ntmps90
      go_wp2_with fail
      refine (take_no _ s 0 60 60 _ _ hs' (Nat.zero_le _) rfl (by rw [List.drop_zero]; exact HH.out) HB.out).mono ?_
      rintro e w1 ⟨rfl, nd, rfl⟩
      go_wp2
      refine bodyPost_ret (v := .tuple #[.agg #[.string ⟨#[]⟩, .string ⟨#[]⟩], .bool false]) (by simp [results, Tryz.results90, go_sem]) rfl ⟨pathRes_none HP.out, ?_⟩
      exact (((K0.out.drewN _).setCell _ _ (by simp)).setCell _ _ (by simp))
end Go.Proofs.YtahiahboneljaaaGreatDoor
namespace Go.Proofs.YtahiahboneljaaaGreatDoor
open Go.RowKit

theorem l1Address_any (u d : ByteArray) (w : World) (hu : u.size ≤ bigN) (hd : d.size ≤ bigN) :
    Calls Tryz.prog 119 #[.agg #[.string u, .string d]] w fun e w' => e = .returned (.bool (isName u.data.toList && isDomain d.data.toList)) ∧ Kept [] w w' := by
  cases hn : isName u.data.toList with
  | false =>
    go_enter Tryz.func119, Tryz.ntmps119
    go_wp2_with (go_at_call 53; refine (sNameValid_any u _ (Nat.le_trans hu bigN_le)).mono ?_; rintro e w1 ⟨rfl, rfl⟩)
    go_ret
    exact ⟨ret_bool (by simp), (Kept.refl _ _).alloc _⟩
  | true =>
    go_enter Tryz.func119, Tryz.ntmps119
    go_wp2_with fail
    refine (sNameValid_any u _ (Nat.le_trans hu bigN_le)).mono ?_
    rintro e w1 ⟨rfl, rfl⟩
    go_wp2_with fail
    refine (sDomainValid_any d _ hd).mono ?_
    rintro e w2 ⟨rfl, hK⟩
    have HK := hid hK
    clear hK
    go_wp2
    go_ret
    exact ⟨ret_bool (by simp), ((Kept.refl [] w).alloc _).trans HK.out⟩

theorem addrText_two {l u d : List UInt8} (h : cutB 64 l = [u, d]) : addrText l = if (isName u && isDomain d) = true then some (u, d) else none := by unfold addrText; rw [h]
theorem addrText_not {l : List UInt8} (h : (cutB 64 l).length ≠ 2) : addrText l = none := by
  unfold addrText
  split
  · rename_i u d he; rw [he] at h; simp at h
  · rfl

theorem sAddressParse_any (s : ByteArray) (w : World) (hs : s.size ≤ bigN) :
    Calls Tryz.prog 108 #[.string s] w fun e w' => e = .returned (pathRes (addrText s.data.toList)) ∧ Kept [] w w' := by
  have hs' := Nat.le_trans hs bigN_le
  have hpos := cutB_pos 64 s.data.toList
  have hpart := cutB_part 64 s.data.toList
  have HPA : Hid (∀ p ∈ cutB 64 s.data.toList, p.length ≤ s.size) := fun p hp => by have := hpart p hp; simpa using this
  have HTW : Hid (∀ u d, cutB 64 s.data.toList = [u, d] → addrText s.data.toList = if (isName u && isDomain d) = true then some (u, d) else none) := fun u d h => addrText_two h
  have HNT : Hid ((cutB 64 s.data.toList).length ≠ 2 → addrText s.data.toList = none) := addrText_not
  have HR := hid (new_block w (Obj.cells #[.string ⟨#[]⟩, .string ⟨#[]⟩] 91))
  have K0 := hid ((Kept.refl [] w).alloc (Obj.cells #[.string ⟨#[]⟩, .string ⟨#[]⟩] 91))
  clear hpart
  go_enter Tryz.func108, Tryz.ntmps108
  go_wp2_with fail
  refine (l1Cut_any s 64 64 rfl _ hs).mono ?_
  rintro e w1 ⟨v, rfl, hown, hK⟩
  generalize cutB 64 s.data.toList = L at hown hpos HPA HTW HNT
  obtain ⟨g, cap, rfl, hg, hgs, hcell⟩ := own_strs hown hpos
  have HK1 := hid (K0.out.trans hK)
  have hR1 := hK.same HR.out (by simp)
  have hr0 := cell_of_block hR1 0
  have hr1 := cell_of_block hR1 1
  have hf0 := frozen_of_block hR1 0
  have hf1 := frozen_of_block hR1 1
  have hsz0 := lt_of_block hR1
  simp at hr0 hr1
  have HR1 := hid hR1
  have HC := hid hcell
  have hL : L.length ≠ 2 → ((L.length : Int) != 2) = true := fun h => by rw [bne_iff_ne]; omega
  have HL := hid hL
  clear hown hK hcell hR1 hL
  by_cases h2 : L.length = 2
  · obtain ⟨u, d, rfl⟩ : ∃ u d, L = [u, d] := by
      match L, h2 with
      | [u, d], _ => exact ⟨u, d, rfl⟩
    have hc0 := HC.out 0 (by simp)
    have hc1 := HC.out 1 (by simp)
    simp at hc0 hc1
    have hgn : w.heap.size < g := by simp at hg; omega
    clear h2
    go_wp2
    go_region
    go_wp2_with fail
    refine (l1Address_any (bs u) (bs d) _ (by rw [bs_size]; have := HPA.out u (by simp); omega) (by rw [bs_size]; have := HPA.out d (by simp); omega)).mono ?_
    rintro e w2 ⟨rfl, hK⟩
    rw [bs_toList, bs_toList]
    have hz2 := hK.size
    simp at hz2
    have HK2 := hid (((HK1.out.drew).alloc _).trans hK)
    have hR2 := hK.same (alloc_block (w := w1.drew) HR1.out _) (by simp)
    have hA2 := hK.same (new_block w1.drew _) (by simp)
    have hr0 := cell_of_block hR2 0
    have hr1 := cell_of_block hR2 1
    have hf0 := frozen_of_block hR2 0
    have hf1 := frozen_of_block hR2 1
    have ha0 := cell_of_block hA2 0
    have ha1 := cell_of_block hA2 1
    have hsz0 := lt_of_block hR2
    simp at hr0 hr1 ha0 ha1
    clear hK hR2 hA2
    cases hb : isName u && isDomain d with
    | true =>
      have hp : addrText s.data.toList = some (u, d) := by rw [HTW.out u d rfl, if_pos hb]
      have HP := hid hp
      clear hb hp
      go_wp2
      refine bodyPost_ret (v := .tuple #[.agg #[.string (bs u), .string (bs d)], .bool true]) (by simp [results, Tryz.results108, go_sem, hr0, hr1]) rfl ⟨pathRes_some HP.out, ?_⟩
      (repeat' with_reducible first | exact HK2.out | refine Kept.alloc ?_ _ | refine Kept.drewN ?_ _ | refine Kept.setCell ?_ _ _ (by simp))
    | false =>
      have hp : addrText s.data.toList = none := by rw [HTW.out u d rfl, if_neg (by rw [hb]; simp)]
      have HP := hid hp
      clear hb hp
      go_wp2
      refine bodyPost_ret (v := .tuple #[.agg #[.string ⟨#[]⟩, .string ⟨#[]⟩], .bool false]) (by simp [results, Tryz.results108, go_sem, hr0, hr1]) rfl ⟨pathRes_none HP.out, ?_⟩
      (repeat' with_reducible first | exact HK2.out | refine Kept.alloc ?_ _ | refine Kept.drewN ?_ _ | refine Kept.setCell ?_ _ _ (by simp))
  · have h2' := HL.out h2
    have HP := hid (HNT.out h2)
    clear h2
    go_wp2
    refine bodyPost_ret (v := .tuple #[.agg #[.string ⟨#[]⟩, .string ⟨#[]⟩], .bool false]) (by simp [results, Tryz.results108, go_sem, hr0, hr1]) rfl ⟨pathRes_none HP.out, ?_⟩
    (repeat' with_reducible first | exact HK1.out | refine Kept.alloc ?_ _ | refine Kept.drewN ?_ _ | refine Kept.setCell ?_ _ _ (by simp))

theorem last_at (s : ByteArray) (k : Nat) (hk : k < s.size) (h : k = s.size - 1) : s.data.toList.getLast? = some s[k] := by
  subst h
  rw [List.getLast?_eq_getElem?]
  simp only [Array.length_toList]
  rw [show s.data.size - 1 = s.size - 1 from rfl, List.getElem?_eq_getElem (by simpa using hk)]
  rfl
theorem head_at (s : ByteArray) (h : 0 < s.size) : s.data.toList.head? = some s[0] := by
  rw [List.head?_eq_getElem?, List.getElem?_eq_getElem (by simpa using h)]; rfl

set_option maxHeartbeats 800000 in
theorem sPathParse_any (s : ByteArray) (w : World) (hs : s.size ≤ bigN) :
    Calls Tryz.prog 95 #[.string s] w fun e w' => e = .returned (pathRes (pathOf s.data.toList)) ∧ Kept [] w w' := by
  rw [path_same]
  have hs' := Nat.le_trans hs bigN_le
  unfold maxLen at hs'
  by_cases h0 : s.data.toList = [60, 62]
  · have hp : pathText s.data.toList = some ([], []) := by unfold pathText; rw [if_pos h0]
    have HP := hid hp
    have h0' : (s.toList == [60, 62]) = true := by rw [str_eq]; simp [h0]
    clear h0 hp
    go_enter Tryz.func95, Tryz.ntmps95
    go_wp2
    refine bodyPost_ret (v := .tuple #[.agg #[.string ⟨#[]⟩, .string ⟨#[]⟩], .bool true]) (by simp [results, Tryz.results95, go_sem]) rfl ⟨pathRes_some HP.out, ?_⟩
    exact (Kept.refl _ _).alloc _
  · have h0' : (s.toList == [60, 62]) = false := by rw [str_eq]; simp [h0]
    have HR := hid (new_block w (Obj.cells #[.string ⟨#[]⟩, .string ⟨#[]⟩] 91))
    have K0 := hid ((Kept.refl [] w).alloc (Obj.cells #[.string ⟨#[]⟩, .string ⟨#[]⟩] 91))
    have hlen : s.data.toList.length = s.size := by simp
    have HX := hid h0
    have HLEN := hid hlen
    have hno : s.data.toList.length < 2 ∨ s.data.toList.head? ≠ some 60 ∨ s.data.toList.getLast? ≠ some 62 → pathText s.data.toList = none := fun hn => by unfold pathText; rw [if_neg h0, if_pos hn]
    have HNO := hid hno
    clear h0 hlen hno
    by_cases hl : s.size < 2
    · have hl' : (s.size : Int) < 2 := by omega
      go_enter Tryz.func95, Tryz.ntmps95
      go_wp2
      refine bodyPost_ret (v := .tuple #[.agg #[.string ⟨#[]⟩, .string ⟨#[]⟩], .bool false]) (by simp [results, Tryz.results95, go_sem]) rfl ⟨pathRes_none (HNO.out (.inl (by rw [HLEN.out]; exact hl))), ?_⟩
      exact K0.out
    · have hl' : ¬ (s.size : Int) < 2 := by omega
      have hz : 0 < s.size := by omega
      have hm0 : s.size - 1 < s.size := by omega
      have h1a : (1 : Int) ≤ s.size := by omega
      have h1b : (s.size : Int) - 1 < s.size := by omega
      have h1c : 1 ≤ s.size - 1 := by omega
      have H0 := hid (head_at s hz)
      have HLA := hid (last_at s _ hm0 rfl)
      by_cases c0 : s[0] = 60
      · have c0' : ((s[0].toNat : Int) != 60) = false := by rw [c0]; rfl
        have C0 := hid c0
        clear c0
        by_cases c1 : s[s.size - 1] = 62
        · have c1' : ((s[s.size - 1].toNat : Int) != 62) = false := by rw [c1]; rfl
          have C1 := hid c1
          clear c1
          have hpt : pathText s.data.toList = addrText (s.extract 1 (s.size - 1)).data.toList := by
            unfold pathText
            rw [if_neg HX.out, if_neg (by rw [H0.out, HLA.out, C0.out, C1.out, HLEN.out]; simp; omega), HLEN.out, extract_bs, bs_toList, List.drop_one]
            congr 2
          have HPT := hid hpt
          clear hpt
          go_enter Tryz.func95, Tryz.ntmps95
          go_wp2_with fail
          refine (sAddressParse_any _ _ (by rw [ByteArray.size_extract]; omega)).mono ?_
          rintro e w1 ⟨rfl, hK⟩
          rw [← HPT.out]
          have hR1 := hK.same HR.out (by simp)
          have hr0 := cell_of_block hR1 0
          have hr1 := cell_of_block hR1 1
          have hf0 := frozen_of_block hR1 0
          have hf1 := frozen_of_block hR1 1
          have hsz0 := lt_of_block hR1
          simp at hr0 hr1
          have HK2 := hid (K0.out.trans hK)
          clear hK hR1
          cases hp : pathText s.data.toList with
          | none =>
            rw [show pathRes none = .tuple #[.agg #[.string ⟨#[]⟩, .string ⟨#[]⟩], .bool false] from rfl]
            go_wp2
            refine bodyPost_ret (v := .tuple #[.agg #[.string ⟨#[]⟩, .string ⟨#[]⟩], .bool false]) (by simp [results, Tryz.results95, go_sem, hr0, hr1]) rfl ⟨by rw [hp]; rfl, ?_⟩
            (repeat' with_reducible first | exact HK2.out | refine Kept.alloc ?_ _ | refine Kept.drewN ?_ _ | refine Kept.setCell ?_ _ _ (by simp))
          | some x =>
            obtain ⟨u, d⟩ := x
            rw [show pathRes (some (u, d)) = .tuple #[.agg #[.string (bs u), .string (bs d)], .bool true] from rfl]
            go_wp2
            refine bodyPost_ret (v := .tuple #[.agg #[.string (bs u), .string (bs d)], .bool true]) (by simp [results, Tryz.results95, go_sem, hr0, hr1]) rfl ⟨by rw [hp]; rfl, ?_⟩
            (repeat' with_reducible first | exact HK2.out | refine Kept.alloc ?_ _ | refine Kept.drewN ?_ _ | refine Kept.setCell ?_ _ _ (by simp))
        · have c1' : ((s[s.size - 1].toNat : Int) != 62) = true := by
            rw [bne_iff_ne]; intro e; exact c1 (UInt8.toNat_inj.1 (by show _ = (_ : Nat); exact Int.ofNat_inj.1 e))
          have C1 := hid c1
          clear c1
          go_enter Tryz.func95, Tryz.ntmps95
          go_wp2
          refine bodyPost_ret (v := .tuple #[.agg #[.string ⟨#[]⟩, .string ⟨#[]⟩], .bool false]) (by simp [results, Tryz.results95, go_sem]) rfl ⟨pathRes_none (HNO.out (.inr (.inr (by rw [HLA.out]; intro e; exact C1.out (by simpa using e))))), K0.out⟩
      · have c0' : ((s[0].toNat : Int) != 60) = true := by
          rw [bne_iff_ne]; intro e; exact c0 (UInt8.toNat_inj.1 (by show _ = (_ : Nat); exact Int.ofNat_inj.1 e))
        have C0 := hid c0
        clear c0
        go_enter Tryz.func95, Tryz.ntmps95
        go_wp2
        refine bodyPost_ret (v := .tuple #[.agg #[.string ⟨#[]⟩, .string ⟨#[]⟩], .bool false]) (by simp [results, Tryz.results95, go_sem]) rfl ⟨pathRes_none (HNO.out (.inr (.inl (by rw [H0.out]; intro e; exact C0.out (by simpa using e))))), K0.out⟩
end Go.Proofs.YtahiahboneljaaaGreatDoor
