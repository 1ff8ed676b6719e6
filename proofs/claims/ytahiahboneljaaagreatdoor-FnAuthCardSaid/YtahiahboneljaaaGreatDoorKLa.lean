/- What the laws on lines share: their small functions and the plain facts on their lines. -/
import Derived.Test.YtahiahboneljaaaGreatDoorKWc
import Derived.Test.YtahiahboneljaaaGreatDoorKDd
namespace Go.Proofs.YtahiahboneljaaaGreatDoor
open Go.RowKit

theorem beq_bs (a b : List UInt8) : ((bs a).toList == (bs b).toList) = decide (a = b) := by
  rw [ByteArray.toList_eq, ByteArray.toList_eq, bs_toList, bs_toList, Bool.eq_iff_iff]; simp

theorem sameNames_any (lo1 lo2 : Nat) (v1 v2 : Value) (a b : List (List UInt8)) (w : World) (h1 : StrsAt lo1 w v1 a) (h2 : StrsAt lo2 w v2 b) :
    Calls Tryz.prog 31 #[v1, v2] w fun e w' => e = .returned (.bool (decide (a = b))) ∧ Drew w w' := by
  obtain ⟨a1, cap1, b1, off1, rfl, hl1, hcp1, ha1, hc1⟩ := h1
  obtain ⟨a2, cap2, b2, off2, rfl, hl2, hcp2, ha2, hc2⟩ := h2
  have HC1 := hid hc1
  have HC2 := hid hc2
  have HA1 := hid ha1
  have HA2 := hid ha2
  have hl63 : a.length ≤ 2 ^ 63 - 1 := by have := Nat.le_trans hl1 bigN_le; unfold maxLen at this; exact this
  have hl64 : b.length ≤ 2 ^ 63 - 1 := by have := Nat.le_trans hl2 bigN_le; unfold maxLen at this; exact this
  clear hc1 hc2 ha1 ha2 hl1 hl2
  by_cases hlen : a.length = b.length
  · have hne : ((a.length : Int) != (b.length : Int)) = false := by simp [hlen]
    have HL := hid hlen
    clear hlen
    go_enter Tryz.func31, Tryz.ntmps31
    go_wp2
    go_loopg [5] a.length (fun m i wr => ∃ k : Nat, m = a.length - k ∧ k ≤ a.length ∧ i = .int .i64 k ∧ a.take k = b.take k ∧ Drew w wr)
    case atStart => exact ⟨0, rfl, Nat.zero_le _, rfl, by simp, Drew.refl _⟩
    case round =>
      obtain ⟨k, hm, hk, rfl, hno, hD⟩ := hrel
      have HM := hid hm
      have HN := hid hno
      have HD := hid hD
      clear hm hno hD
      by_cases hlt : k < a.length
      · have hlt2 : k < b.length := by rw [← HL.out]; exact hlt
        obtain ⟨rfl, -, -⟩ := HA1.out (by omega)
        obtain ⟨rfl, -, -⟩ := HA2.out (by omega)
        have hc1 := HD.out.cell (HC1.out k hlt).1
        have hc2 := HD.out.cell (HC2.out k hlt2).1
        have i1 : (k : Int) < a.length := by omega
        have i2 : (k : Int) < b.length := by omega
        have i3 : (0 : Int) ≤ k := by omega
        have i4 : k < cap1 := by omega
        have i5 : k < cap2 := by omega
        by_cases hn : a[k] = b[k]
        · have hn' : ((bs a[k]).toList == (bs b[k]).toList) = true := by rw [beq_bs, decide_eq_true hn]
          have HF := hid hn
          clear hn
          go_wp2
          go_quiet (fail)
          go_wp2
          go_roundg (a.length - (k + 1))
          case measure => have := HM.out; omega
          case rel => exact ⟨k + 1, rfl, by omega, by go_num, by rw [List.take_succ_eq_append_getElem hlt, List.take_succ_eq_append_getElem hlt2, HN.out, HF.out], HD.out.more _⟩
        · have hn' : ((bs a[k]).toList == (bs b[k]).toList) = false := by rw [beq_bs, decide_eq_false hn]
          have hf : decide (a = b) = false := by rw [decide_eq_false_iff_not]; intro e; subst e; exact hn rfl
          have HF := hid hf
          clear hn hf
          go_wp2
          go_quiet (fail)
          go_wp2
          go_ret
          exact ⟨ret_bool HF.out.symm, HD.out.more _⟩
      · obtain rfl : k = a.length := by omega
        have hf : decide (a = b) = true := by
          rw [decide_eq_true_eq]
          have := HN.out
          rw [List.take_length, HL.out, List.take_length] at this; exact this
        have HF := hid hf
        clear hf
        go_wp2
        go_ret
        exact ⟨ret_bool HF.out.symm, HD.out⟩
  · have hne : ((a.length : Int) != (b.length : Int)) = true := by simp; omega
    have hf : decide (a = b) = false := by rw [decide_eq_false_iff_not]; intro e; subst e; exact hlen rfl
    have HF := hid hf
    clear hf hlen
    go_enter Tryz.func31, Tryz.ntmps31
    go_wp2
    go_ret
    exact ⟨ret_bool HF.out.symm, Drew.refl _⟩

/-- Two submissions read alike. -/
def sbEq (s t : Sb) : Bool := ((decide (s.stage = t.stage) && decide (s.user = t.user)) && decide (s.text = t.text)) && decide (s.to = t.to)
theorem sbEq_iff {s t : Sb} : sbEq s t = true ↔ s = t := by
  unfold sbEq
  cases s; cases t
  simp only [Bool.and_eq_true, decide_eq_true_eq, Sb.mk.injEq]
  constructor
  · rintro ⟨⟨⟨h1, h2⟩, h3⟩, h4⟩; exact ⟨h1, h2, h4, h3⟩
  · rintro ⟨h1, h2, h3, h4⟩; exact ⟨⟨⟨h1, h2⟩, h4⟩, h3⟩
theorem sbEq_self (s : Sb) : sbEq s s = true := sbEq_iff.2 rfl

set_option maxRecDepth 100000 in
theorem sameSub_any (lo1 lo2 : Nat) (v1 v2 : Value) (s t : Sb) (w : World) (h1 : SubAt lo1 w v1 s) (h2 : SubAt lo2 w v2 t) :
    Calls Tryz.prog 14 #[v1, v2] w fun e w' => e = .returned (.bool (sbEq s t)) ∧ Kept [] w w' := by
  obtain ⟨tv1, rfl, hs1, -, -⟩ := h1
  obtain ⟨tv2, rfl, hs2, -, -⟩ := h2
  obtain ⟨a1, c1, rfl⟩ := hs1.form
  obtain ⟨a2, c2, rfl⟩ := hs2.form
  obtain ⟨st1, u1, to1, x1⟩ := s
  obtain ⟨st2, u2, to2, x2⟩ := t
  dsimp only at hs1 hs2 ⊢
  have HK := hid (((Kept.refl [] w).alloc (Obj.cells #[.int .i64 st1, .string (bs u1), .slice a1 to1.length c1, .string (bs x1)] 25)).alloc (Obj.cells #[.int .i64 st2, .string (bs u2), .slice a2 to2.length c2, .string (bs x2)] 25))
  have HS := hid (sameNames_any lo1 lo2 _ _ to1 to2 _ (hs1.kept0 HK.out) (hs2.kept0 HK.out))
  have HR : Hid (sbEq ⟨st1, u1, to1, x1⟩ ⟨st2, u2, to2, x2⟩ = (((decide (st1 = st2) && decide (u1 = u2)) && decide (x1 = x2)) && decide (to1 = to2))) := rfl
  have e1 := beq_bs u1 u2
  have e2 := beq_bs x1 x2
  clear hs1 hs2
  by_cases q1 : st1 = st2
  · by_cases q2 : u1 = u2
    · by_cases q3 : x1 = x2
      · have f2 : ((bs u1).toList == (bs u2).toList) = true := by rw [e1, decide_eq_true q2]
        have f3 : ((bs x1).toList == (bs x2).toList) = true := by rw [e2, decide_eq_true q3]
        have f1 : (st1 == st2) = true := by simp [q1]
        have HQ := hid (And.intro q1 (And.intro q2 q3))
        clear e1 e2 q1 q2 q3
        go_enter Tryz.func14, Tryz.ntmps14
        go_wp2_with fail
        refine HS.out.mono ?_
        rintro e w1 ⟨rfl, hD⟩
        have HD := hid (HK.out.trans hD.kept)
        clear hD
        go_wp2
        all_goals
          go_ret
          exact ⟨ret_bool (by rw [HR.out, decide_eq_true HQ.out.1, decide_eq_true HQ.out.2.1, decide_eq_true HQ.out.2.2]; simp [*]), HD.out⟩
      · have f2 : ((bs u1).toList == (bs u2).toList) = true := by rw [e1, decide_eq_true q2]
        have f3 : ((bs x1).toList == (bs x2).toList) = false := by rw [e2, decide_eq_false q3]
        have f1 : (st1 == st2) = true := by simp [q1]
        have HQ := hid q3
        clear e1 e2 q1 q2 q3
        go_enter Tryz.func14, Tryz.ntmps14
        go_wp2
        go_ret
        exact ⟨ret_bool (by rw [HR.out, decide_eq_false HQ.out]; simp), HK.out⟩
    · have f2 : ((bs u1).toList == (bs u2).toList) = false := by rw [e1, decide_eq_false q2]
      have f1 : (st1 == st2) = true := by simp [q1]
      have HQ := hid q2
      clear e1 e2 q1 q2
      go_enter Tryz.func14, Tryz.ntmps14
      go_wp2
      go_ret
      exact ⟨ret_bool (by rw [HR.out, decide_eq_false HQ.out]; simp), HK.out⟩
  · have f1 : (st1 == st2) = false := by simp [q1]
    have HQ := hid q1
    clear e1 e2 q1
    go_enter Tryz.func14, Tryz.ntmps14
    go_wp2
    go_ret
    exact ⟨ret_bool (by rw [HR.out, decide_eq_false HQ.out]; simp), HK.out⟩

/-- Takes a submission commands? -/
def opn (s : Sb) : Bool := decide (s.stage ≠ 5) && decide (s.stage ≠ 6)

theorem open_any (lo : Nat) (v : Value) (s : Sb) (w : World) (h : SubAt lo w v s) :
    Calls Tryz.prog 15 #[v] w fun e w' => e = .returned (.bool (opn s)) ∧ Kept [] w w' := by
  obtain ⟨tv, rfl, hs, -, -⟩ := h
  obtain ⟨a1, c1, rfl⟩ := hs.form
  obtain ⟨st, u, to, x⟩ := s
  dsimp only at hs ⊢
  have HK := hid ((Kept.refl [] w).alloc (Obj.cells #[.int .i64 st, .string (bs u), .slice a1 to.length c1, .string (bs x)] 25))
  have HR : Hid (opn ⟨st, u, to, x⟩ = (decide (st ≠ 5) && decide (st ≠ 6))) := rfl
  clear hs
  by_cases q1 : st = 5
  · have HQ := hid q1
    have f1 : (st != 5) = false := by simp [q1]
    clear q1
    go_enter Tryz.func15, Tryz.ntmps15
    go_wp2
    go_ret
    exact ⟨ret_bool (by rw [HR.out, HQ.out]; simp), HK.out⟩
  · have f1 : (st != 5) = true := by simp [q1]
    have HQ := hid q1
    clear q1
    by_cases q2 : st = 6
    · have f2 : (st != 6) = false := by simp [q2]
      have HQ2 := hid q2
      clear q2
      go_enter Tryz.func15, Tryz.ntmps15
      go_wp2
      go_ret
      exact ⟨ret_bool (by rw [HR.out, HQ2.out]; simp), HK.out⟩
    · have f2 : (st != 6) = true := by simp [q2]
      have HQ2 := hid q2
      clear q2
      go_enter Tryz.func15, Tryz.ntmps15
      go_wp2
      go_ret
      exact ⟨ret_bool (by rw [HR.out, decide_eq_true HQ.out, decide_eq_true HQ2.out]; rfl), HK.out⟩
end Go.Proofs.YtahiahboneljaaaGreatDoor
namespace Go.Proofs.YtahiahboneljaaaGreatDoor
open Go.RowKit

/-- Where an argument is not valid, the number is below nought. -/
theorem line_valid {s : Sb} {us : List Usr} {d l : List UInt8} (h : ¬ (subLineP s us d l).2 < 0) : subOk s = true ∧ usersOk us = true ∧ isDomain d = true := by
  by_cases hv : subOk s = true ∧ usersOk us = true ∧ isDomain d = true
  · exact hv
  · exfalso; apply h; unfold subLineP; rw [if_neg hv]; simp
theorem line_of {s : Sb} {us : List Usr} {d : List UInt8} (h : subOk s = true ∧ usersOk us = true ∧ isDomain d = true) (l : List UInt8) : subLineP s us d l = lineP s us d l := by
  unfold subLineP; rw [if_pos h]

/-- A call hands back this submission and this number. -/
def SubIs (W0 : World) (s : Sb) (n : Int) (e : Ending) (w' : World) : Prop :=
  ∃ ta tc, e = .returned (.tuple #[.agg #[.int .i64 s.stage, .string (bs s.user), .slice ta s.to.length tc, .string (bs s.text)], .int .i64 n]) ∧ SubAt 0 w' (.agg #[.int .i64 s.stage, .string (bs s.user), .slice ta s.to.length tc, .string (bs s.text)]) s ∧ Kept [] W0 w'
theorem SubRes.is {W0 : World} {x : Sb × Int} {e : Ending} {w' : World} (h : SubRes W0 x e w') : SubIs W0 x.1 x.2 e w' := by
  obtain ⟨r, he, ⟨tv, rfl, h1, h2, h3⟩, hK⟩ := h
  obtain ⟨ta, tc, rfl⟩ := h1.form
  exact ⟨ta, tc, he, ⟨_, rfl, h1, h2, h3⟩, hK⟩

theorem sameSub_self (lo1 lo2 : Nat) (v1 v2 : Value) (s : Sb) (w : World) (h1 : SubAt lo1 w v1 s) (h2 : SubAt lo2 w v2 s) :
    Calls Tryz.prog 14 #[v1, v2] w fun e w' => e = .returned (.bool true) ∧ Kept [] w w' := by
  have := sameSub_any lo1 lo2 v1 v2 s s w h1 h2
  rwa [sbEq_self] at this
theorem sub_lit (st : Int) (u : List UInt8) (w : World) (hu : u.length ≤ bigN) : SubAt 0 w (.agg #[.int .i64 st, .string (bs u), .slice none 0 0, .string ⟨#[]⟩]) ⟨st, u, [], []⟩ := ⟨_, rfl, strs_noneN _ _ _ _, hu, Nat.zero_le _⟩

theorem SubAt.stage {lo : Nat} {w : World} {s : Sb} {ta : Option Addr} {tc : Nat} (h : SubAt lo w (.agg #[.int .i64 s.stage, .string (bs s.user), .slice ta s.to.length tc, .string (bs s.text)]) s) (st : Int) :
    SubAt lo w (.agg #[.int .i64 st, .string (bs s.user), .slice ta s.to.length tc, .string (bs s.text)]) ⟨st, s.user, s.to, s.text⟩ := by
  obtain ⟨tv, h1, h2, h3, h4⟩ := h
  simp at h1
  subst h1
  exact ⟨_, rfl, h2, h3, h4⟩

/- What the lines of the laws do. -/
theorem opn_iff {s : Sb} (h : opn s = true) : s.stage ≠ 5 ∧ s.stage ≠ 6 := by unfold opn at h; simpa using h
theorem ln_open {s : Sb} {us : List Usr} {d l : List UInt8} (h : opn s = true) : lineP s us d l =
    if (cutB 32 l).getD 0 [] = [69, 72, 76, 79] then helloP s (cutB 32 l)
    else if (cutB 32 l).getD 0 [] = [65, 85, 84, 72] then authP s us (cutB 32 l)
    else if (cutB 32 l).getD 0 [] = [77, 65, 73, 76] then mailP s d l
    else if (cutB 32 l).getD 0 [] = [82, 67, 80, 84] then toP s us d l
    else restP s l := by
  obtain ⟨h5, h6⟩ := opn_iff h
  unfold lineP; rw [if_neg h6, if_neg h5]
theorem ln_rest {s : Sb} {us : List Usr} {d l : List UInt8} (h : opn s = true) (h1 : (cutB 32 l).getD 0 [] ≠ [69, 72, 76, 79]) (h2 : (cutB 32 l).getD 0 [] ≠ [65, 85, 84, 72]) (h3 : (cutB 32 l).getD 0 [] ≠ [77, 65, 73, 76]) (h4 : (cutB 32 l).getD 0 [] ≠ [82, 67, 80, 84]) :
    lineP s us d l = restP s l := by rw [ln_open h, if_neg h1, if_neg h2, if_neg h3, if_neg h4]
theorem ln_data {s : Sb} {us : List Usr} {d : List UInt8} (h : opn s = true) : lineP s us d [68, 65, 84, 65] = if s.stage ≠ 4 then (s, 503) else (⟨5, s.user, s.to, s.text⟩, 354) := by
  rw [ln_rest h (by decide) (by decide) (by decide) (by decide)]; unfold restP; rw [if_pos rfl]
theorem ln_rset {s : Sb} {us : List Usr} {d : List UInt8} (h : opn s = true) : lineP s us d [82, 83, 69, 84] = (backP s, 250) := by
  rw [ln_rest h (by decide) (by decide) (by decide) (by decide)]; unfold restP; rw [if_neg (by decide), if_pos rfl]
theorem ln_noop {s : Sb} {us : List Usr} {d : List UInt8} (h : opn s = true) : lineP s us d [78, 79, 79, 80] = (s, 250) := by
  rw [ln_rest h (by decide) (by decide) (by decide) (by decide)]; unfold restP; rw [if_neg (by decide), if_neg (by decide), if_pos rfl]
theorem ln_quit {s : Sb} {us : List Usr} {d : List UInt8} (h : opn s = true) : lineP s us d [81, 85, 73, 84] = (⟨6, [], [], []⟩, 221) := by
  rw [ln_rest h (by decide) (by decide) (by decide) (by decide)]; unfold restP; rw [if_neg (by decide), if_neg (by decide), if_neg (by decide), if_pos rfl]
theorem ln_what {s : Sb} {us : List Usr} {d l : List UInt8} (h : opn s = true) (hl : l = [88, 89, 90] ∨ l = [110, 111, 111, 112] ∨ l = []) : lineP s us d l = (s, 500) := by
  rcases hl with rfl | rfl | rfl
  all_goals rw [ln_rest h (by decide) (by decide) (by decide) (by decide)]; unfold restP; rw [if_neg (by decide), if_neg (by decide), if_neg (by decide), if_neg (by decide)]
theorem ln_mail {s : Sb} {us : List Usr} {d : List UInt8} (h : opn s = true) (h2 : s.stage ≠ 2) : lineP s us d [77, 65, 73, 76, 32, 70, 82, 79, 77, 58, 60, 97, 109, 121, 64, 104, 111, 115, 116, 46, 111, 114, 103, 62] = (s, if s.stage < 2 then 530 else 503) := by
  rw [ln_open h, if_neg (by decide), if_neg (by decide), if_pos (by decide)]
  unfold mailP
  by_cases g : s.stage < 2
  · rw [if_pos g, if_pos g]
  · rw [if_neg g, if_neg g, if_pos h2]
theorem ln_hello {s : Sb} {us : List Usr} {d : List UInt8} (h : opn s = true) (hv : subOk s = true) : lineP s us d [69, 72, 76, 79, 32, 104, 111, 115, 116] = (⟨min (max s.stage 1) 2, s.user, [], []⟩, 250) := by
  rw [ln_open h, if_pos (by decide)]
  unfold helloP
  rw [if_pos (by decide)]
  obtain ⟨h0, h6, hu, -⟩ := subOk_use hv
  refine Prod.ext ?_ rfl
  show backP _ = _
  unfold backP
  by_cases z : s.stage = 0
  · rw [if_pos z, if_neg (by dsimp only; omega), z, hu (by omega)]; rfl
  · rw [if_neg z]
    dsimp only
    by_cases g : 2 ≤ s.stage
    · rw [if_pos g, Int.max_eq_left (by omega), Int.min_eq_right g]
    · rw [if_neg g, Int.max_eq_left (by omega), Int.min_eq_left (by omega), hu (by omega)]
theorem ln_bad {s : Sb} {us : List Usr} {d l : List UInt8} (h : opn s = true) (hl : l = [69, 72, 76, 79] ∨ l = [69, 72, 76, 79, 32, 46] ∨ l = [69, 72, 76, 79, 32, 97, 32, 98]) : lineP s us d l = (s, 501) := by
  rcases hl with rfl | rfl | rfl
  all_goals rw [ln_open h, if_pos (by decide)]; unfold helloP; rw [if_neg (by decide)]
theorem ln_over {us : List Usr} {d l : List UInt8} (h : usersOk us = true ∧ isDomain d = true) : subLineP ⟨6, [], [], []⟩ us d l = (⟨6, [], [], []⟩, 503) := by
  rw [line_of ⟨rfl, h.1, h.2⟩]; unfold lineP; rw [if_pos rfl]
theorem ln_back {s : Sb} (h : subOk s = true) : backP s = ⟨min s.stage 2, s.user, [], []⟩ := by
  obtain ⟨h0, h6, hu, -⟩ := subOk_use h
  unfold backP
  split
  · next h2 => rw [Int.min_eq_right h2]
  · next h2 => rw [Int.min_eq_left (by omega), hu (by omega)]
end Go.Proofs.YtahiahboneljaaaGreatDoor
