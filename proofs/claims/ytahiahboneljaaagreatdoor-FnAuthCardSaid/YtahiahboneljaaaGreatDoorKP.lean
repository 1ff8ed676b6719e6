/- The plain models, no program: names, domains, addresses, users, submissions, base64, lines. -/
import Derived.WalkKit
import Derived.Lib.SlicesS
import Derived.Lib.SplitLaws
import Derived.Lib.CutLaws
namespace Go.Proofs.YtahiahboneljaaaGreatDoor
open Go

/-- A byte of a name. -/
def nmB (b : UInt8) : Bool := (97 ≤ b && b ≤ 122) || (48 ≤ b && b ≤ 57)
/-- How many bytes of a name stand at the head. -/
def nmLen : List UInt8 → Nat
  | [] => 0
  | b :: r => if nmB b then nmLen r + 1 else 0
/-- A name. -/
def isName (l : List UInt8) : Bool := decide (1 ≤ l.length) && decide (l.length ≤ 8) && l.all nmB

theorem nmLen_le (l : List UInt8) : nmLen l ≤ l.length := by
  induction l with
  | nil => simp [nmLen]
  | cons b r ih => unfold nmLen; split <;> simp <;> omega

theorem nmLen_all (l : List UInt8) : nmLen l = l.length ↔ l.all nmB = true := by
  induction l with
  | nil => simp [nmLen]
  | cons b r ih =>
    have := nmLen_le r
    unfold nmLen
    by_cases h : nmB b = true
    · simp [h, ← ih]
    · simp [h]

theorem nmLen_get (l : List UInt8) (k : Nat) (h : k < nmLen l) : ∃ h' : k < l.length, nmB l[k] = true := by
  induction l generalizing k with
  | nil => simp [nmLen] at h
  | cons b r ih =>
    unfold nmLen at h
    by_cases hb : nmB b = true
    · rw [if_pos hb] at h
      cases k with
      | zero => exact ⟨by simp, by simpa using hb⟩
      | succ k => obtain ⟨h1, h2⟩ := ih k (by omega); exact ⟨by simp; omega, by simpa using h2⟩
    · rw [if_neg hb] at h; omega

/-- The end of the name at k in l. -/
def nmEnd (l : List UInt8) (k : Nat) : Nat := k + nmLen (l.drop k)
theorem nmEnd_ge (l : List UInt8) (k : Nat) : k ≤ nmEnd l k := by unfold nmEnd; omega
theorem nmEnd_le (l : List UInt8) (k : Nat) (h : k ≤ l.length) : nmEnd l k ≤ l.length := by
  unfold nmEnd; have := nmLen_le (l.drop k); simp at this; omega
theorem nmEnd_step (l : List UInt8) (k : Nat) (h : k < l.length) (hb : nmB l[k] = true) : nmEnd l k = nmEnd l (k + 1) := by
  unfold nmEnd; rw [List.drop_eq_getElem_cons h, nmLen, if_pos hb]; omega
theorem nmEnd_stop (l : List UInt8) (k : Nat) (h : k < l.length) (hb : nmB l[k] = false) : nmEnd l k = k := by
  unfold nmEnd; rw [List.drop_eq_getElem_cons h, nmLen, if_neg (by simp [hb])]; omega
theorem nmEnd_end (l : List UInt8) : nmEnd l l.length = l.length := by unfold nmEnd; simp [nmLen]

theorem nmB_iff (b : UInt8) : nmB b = decide (97 ≤ (b.toNat : Int) ∧ (b.toNat : Int) ≤ 122 ∨ 48 ≤ (b.toNat : Int) ∧ (b.toNat : Int) ≤ 57) := by
  unfold nmB
  rw [Bool.eq_iff_iff]
  simp [UInt8.le_iff_toNat_le]
  omega

theorem isName_iff (l : List UInt8) : isName l = (decide (1 ≤ nmEnd l 0 ∧ nmEnd l 0 ≤ 8) && (nmEnd l 0 == l.length)) := by
  have h := nmLen_all l
  have h2 := nmLen_le l
  unfold isName nmEnd
  simp only [List.drop_zero, Nat.zero_add]
  rw [Bool.eq_iff_iff]
  simp only [Bool.and_eq_true, decide_eq_true_eq, beq_iff_eq, ← h]
  omega

/-- The string of a list of bytes. -/
def bs (l : List UInt8) : ByteArray := ⟨l.toArray⟩
@[simp] theorem bs_toList (l : List UInt8) : (bs l).data.toList = l := by simp [bs]
@[simp] theorem bs_size (l : List UInt8) : (bs l).size = l.length := by simp [bs, ByteArray.size]
theorem bs_of (s : ByteArray) : bs s.data.toList = s := by cases s; simp [bs]
theorem bs_inj {a b : List UInt8} : bs a = bs b ↔ a = b := ⟨fun h => by have := congrArg (fun s : ByteArray => s.data.toList) h; simpa using this, fun h => by rw [h]⟩
theorem toList_inj {s t : ByteArray} : s.data.toList = t.data.toList ↔ s = t := ⟨fun h => by rw [← bs_of s, ← bs_of t, h], fun h => by rw [h]⟩
theorem extract_bs (s : ByteArray) (a b : Nat) : s.extract a b = bs ((s.data.toList.drop a).take (b - a)) := by
  rw [← toList_inj]
  simp [List.extract_eq_take_drop]

/-- Split at every byte c. -/
def cutB (c : UInt8) : List UInt8 → List (List UInt8)
  | [] => [[]]
  | b :: r => if b = c then [] :: cutB c r else match cutB c r with | [] => [[b]] | h :: t => (b :: h) :: t

theorem cutB_ne (c : UInt8) (l : List UInt8) : cutB c l ≠ [] := by
  cases l with
  | nil => simp [cutB]
  | cons b r => unfold cutB; split; simp; split <;> simp

theorem cutB_free (c : UInt8) (p r : List UInt8) (h : c ∉ p) : cutB c (p ++ c :: r) = p :: cutB c r := by
  induction p with
  | nil => simp [cutB]
  | cons b q ih =>
    simp only [List.mem_cons, not_or] at h
    simp only [List.cons_append, cutB]
    rw [if_neg (fun e => h.1 e.symm), ih h.2]

theorem cutB_none (c : UInt8) (p : List UInt8) (h : c ∉ p) : cutB c p = [p] := by
  induction p with
  | nil => simp [cutB]
  | cons b q ih =>
    simp only [List.mem_cons, not_or] at h
    simp only [cutB]
    rw [if_neg (fun e => h.1 e.symm), ih h.2]

/-- The first part begins with whatever stands ahead of the first c. -/
theorem cutB_head (c : UInt8) (p r : List UInt8) (h : c ∉ p) : ∃ q t, cutB c (p ++ r) = (p ++ q) :: t ∧ cutB c r = q :: t := by
  induction p with
  | nil =>
    cases hr : cutB c r with
    | nil => exact absurd hr (cutB_ne c r)
    | cons q t => exact ⟨q, t, by simp [hr], rfl⟩
  | cons b q ih =>
    simp only [List.mem_cons, not_or] at h
    obtain ⟨q', t, h1, h2⟩ := ih h.2
    refine ⟨q', t, ?_, h2⟩
    simp only [List.cons_append, cutB]
    rw [if_neg (fun e => h.1 e.symm), h1]

theorem cutB_no_sep (c : UInt8) (l : List UInt8) : ∀ p ∈ cutB c l, c ∉ p := by
  induction l with
  | nil => simp [cutB]
  | cons b r ih =>
    unfold cutB
    split
    · intro p hp
      simp only [List.mem_cons] at hp
      rcases hp with rfl | hp
      · simp
      · exact ih p hp
    · rename_i hb
      cases hr : cutB c r with
      | nil => exact absurd hr (cutB_ne c r)
      | cons h t =>
        rw [hr] at ih
        intro p hp
        simp only [List.mem_cons] at hp
        rcases hp with rfl | hp
        · simp only [List.mem_cons, not_or]
          exact ⟨fun e => hb e.symm, ih h (by simp)⟩
        · exact ih p (by simp [hp])

/-- The head of a name, 1 to 8 bytes. -/
def nmGood (r : List UInt8) : Bool := decide (1 ≤ nmLen r) && decide (nmLen r ≤ 8)

theorem take_nmLen (r : List UInt8) : (r.take (nmLen r)).all nmB = true := by
  induction r with
  | nil => simp [nmLen]
  | cons b q ih =>
    unfold nmLen
    by_cases h : nmB b = true
    · rw [if_pos h]; simp [h]; simpa using ih
    · rw [if_neg h]; simp

theorem drop_nmLen (r : List UInt8) : r.drop (nmLen r) = [] ∨ ∃ b q, r.drop (nmLen r) = b :: q ∧ nmB b = false := by
  induction r with
  | nil => simp [nmLen]
  | cons b q ih =>
    unfold nmLen
    by_cases h : nmB b = true
    · rw [if_pos h]; simpa using ih
    · rw [if_neg h]; exact .inr ⟨b, q, by simp, by simpa using h⟩

theorem isName_take (r : List UInt8) : isName (r.take (nmLen r)) = nmGood r := by
  have := nmLen_le r
  have h2 := take_nmLen r
  unfold isName nmGood
  rw [h2, List.length_take, Nat.min_eq_left this]; simp

theorem isName_all {l : List UInt8} (h : isName l = true) : l.all nmB = true := by
  unfold isName at h; simp only [Bool.and_eq_true] at h; exact h.2

/-- The rest of a domain: at most n names, each with a dot ahead of it; how many bytes. -/
def domTail : Nat → List UInt8 → Option Nat
  | 0, _ => some 0
  | n + 1, r =>
    if r.head? = some 46 then
      if nmGood r.tail then (domTail n (r.tail.drop (nmLen r.tail))).map (· + (1 + nmLen r.tail)) else none
    else some 0
/-- A domain at the head: how many bytes. -/
def domLen (r : List UInt8) : Option Nat :=
  if nmGood r then (domTail 2 (r.drop (nmLen r))).map (· + nmLen r) else none

theorem domTail_le (n : Nat) (r : List UInt8) (k : Nat) (h : domTail n r = some k) : k ≤ r.length := by
  induction n generalizing r k with
  | zero => simp [domTail] at h; omega
  | succ n ih =>
    unfold domTail at h
    split at h
    · rename_i hh
      split at h
      · cases hd : domTail n (r.tail.drop (nmLen r.tail)) with
        | none => rw [hd] at h; cases h
        | some k' =>
          have := ih _ _ hd
          have h1 := nmLen_le r.tail
          rw [hd] at h
          simp only [Option.map_some, Option.some.injEq] at h
          cases r with
          | nil => simp at hh
          | cons b q => simp only [List.tail_cons, List.length_drop, List.length_cons] at this h1 h ⊢; omega
      · simp at h
    · simp at h; omega

theorem domLen_le (r : List UInt8) (k : Nat) (h : domLen r = some k) : k ≤ r.length := by
  unfold domLen at h
  split at h
  · cases hd : domTail 2 (r.drop (nmLen r)) with
    | none => simp [hd] at h
    | some k' =>
      have := domTail_le _ _ _ hd
      have h1 := nmLen_le r
      simp [hd] at h; simp at this; omega
  · simp at h

/-- A domain. -/
def isDomain (l : List UInt8) : Bool := ((cutB 46 l).all isName && decide ((cutB 46 l).length ≤ 3)) && decide (l.length ≤ 20)

theorem isDomain_def (l : List UInt8) : isDomain l = (((cutB 46 l).all isName && decide ((cutB 46 l).length ≤ 3)) && decide (l.length ≤ 20)) := rfl
theorem cutB_pos (c : UInt8) (l : List UInt8) : 0 < (cutB c l).length := by
  cases h : cutB c l with
  | nil => exact absurd h (cutB_ne c l)
  | cons _ _ => simp
theorem cutB_len (c : UInt8) (l : List UInt8) : (cutB c l).length ≤ l.length + 1 := by
  induction l with
  | nil => simp [cutB]
  | cons b r ih => unfold cutB; split; simp; omega; split <;> simp_all; omega
theorem cutB_part (c : UInt8) (l : List UInt8) : ∀ p ∈ cutB c l, p.length ≤ l.length := by
  induction l with
  | nil => simp [cutB]
  | cons b r ih =>
    unfold cutB
    split
    · intro p hp
      simp only [List.mem_cons] at hp
      rcases hp with rfl | hp
      · simp
      · have := ih p hp; simp; omega
    · cases hr : cutB c r with
      | nil => simp
      | cons h t =>
        rw [hr] at ih
        intro p hp
        simp only [List.mem_cons] at hp
        rcases hp with rfl | hp
        · have := ih h (by simp); simp; omega
        · have := ih p (by simp [hp]); simp; omega

theorem not_dot {p : List UInt8} (h : p.all nmB = true) : (46 : UInt8) ∉ p := by
  intro hm
  have := List.all_eq_true.1 h 46 hm
  exact absurd this (by decide)

theorem not_at {p : List UInt8} (h : p.all nmB = true) : (64 : UInt8) ∉ p := by
  intro hm
  have := List.all_eq_true.1 h 64 hm
  exact absurd this (by decide)

theorem not_gt {p : List UInt8} (h : p.all nmB = true) : (62 : UInt8) ∉ p := by
  intro hm
  have := List.all_eq_true.1 h 62 hm
  exact absurd this (by decide)

theorem nmLen_append (p r : List UInt8) (h : p.all nmB = true) : nmLen (p ++ r) = p.length + nmLen r := by
  induction p with
  | nil => simp
  | cons b q ih =>
    simp only [List.all_cons, Bool.and_eq_true] at h
    simp only [List.cons_append, nmLen, h.1, if_true, List.length_cons]
    rw [ih h.2]; omega

/-- 'n + 1 names at most, dots between them', said by the parts and by the cursor. -/
theorem dom_parts (n : Nat) (r : List UInt8) :
    ((cutB 46 r).all isName = true ∧ (cutB 46 r).length ≤ n + 1) ↔ (nmGood r = true ∧ (domTail n (r.drop (nmLen r))).map (· + nmLen r) = some r.length) := by
  induction n generalizing r with
  | zero =>
    have hp := take_nmLen r
    have hle := nmLen_le r
    rcases drop_nmLen r with hd | ⟨b, q, hd, hb⟩
    · have hr : r.take (nmLen r) = r := by have := List.take_append_drop (nmLen r) r; rw [hd] at this; simpa using this
      have hlen : nmLen r = r.length := by have := congrArg List.length hr; simp at this; omega
      have := cutB_none 46 r (not_dot (by rw [← hr]; exact hp))
      rw [this]; simp [domTail, hlen]
      rw [← isName_take, hr]
    · have hr : r = r.take (nmLen r) ++ b :: q := by have := List.take_append_drop (nmLen r) r; rw [hd] at this; exact this.symm
      have hlen : nmLen r < r.length := by have := congrArg List.length hd; simp at this; omega
      constructor
      · intro ⟨h1, h2⟩
        exfalso
        obtain ⟨q', t, e1, e2⟩ := cutB_head 46 (r.take (nmLen r)) (b :: q) (not_dot hp)
        rw [← hr] at e1
        rw [e1] at h1 h2
        have ht : t = [] := by cases t with | nil => rfl | cons _ _ => simp at h2
        simp only [List.all_cons, Bool.and_eq_true] at h1
        have h3 := isName_all h1.1
        unfold cutB at e2
        split at e2
        · simp at e2; rw [ht] at e2; exact cutB_ne _ _ e2.2
        · cases hc : cutB 46 q with
          | nil => exact cutB_ne _ _ hc
          | cons x y =>
            rw [hc] at e2
            simp only [List.cons.injEq] at e2
            rw [← e2.1] at h3
            simp [hb] at h3
      · intro ⟨h1, h2⟩
        simp [domTail] at h2; omega
  | succ n ih =>
    have hp := take_nmLen r
    have hle := nmLen_le r
    rcases drop_nmLen r with hd | ⟨b, q, hd, hb⟩
    · have hr : r.take (nmLen r) = r := by have := List.take_append_drop (nmLen r) r; rw [hd] at this; simpa using this
      have hlen : nmLen r = r.length := by have := congrArg List.length hr; simp at this; omega
      have := cutB_none 46 r (not_dot (by rw [← hr]; exact hp))
      rw [this]; simp [domTail, hlen]
      rw [← isName_take, hr]
    · have hr : r = r.take (nmLen r) ++ b :: q := by have := List.take_append_drop (nmLen r) r; rw [hd] at this; exact this.symm
      have hlen : r.length = nmLen r + (q.length + 1) := by have := congrArg List.length hd; simp at this; omega
      rw [hd]
      by_cases hdot : b = 46
      · subst hdot
        have e1 : cutB 46 r = r.take (nmLen r) :: cutB 46 q := by
          have := cutB_free 46 (r.take (nmLen r)) q (not_dot hp)
          rw [← hr] at this; exact this
        have := ih q
        rw [e1]
        simp only [List.all_cons, isName_take, Bool.and_eq_true, List.length_cons, domTail, List.head?_cons, if_true, List.tail_cons]
        by_cases hg : nmGood q = true
        · simp only [hg, if_true, true_and] at this ⊢
          constructor
          · intro ⟨⟨h1, h2⟩, h3⟩
            obtain h4 := this.1 ⟨h2, by omega⟩
            refine ⟨h1, ?_⟩
            cases hx : domTail n (q.drop (nmLen q)) with
            | none => simp [hx] at h4
            | some k => simp [hx] at h4 ⊢; omega
          · intro ⟨h1, h2⟩
            have h4 : (domTail n (q.drop (nmLen q))).map (· + nmLen q) = some q.length := by
              cases hx : domTail n (q.drop (nmLen q)) with
              | none => simp [hx] at h2
              | some k => simp [hx] at h2 ⊢; omega
            have := this.2 h4
            exact ⟨⟨h1, this.1⟩, by omega⟩
        · simp only [hg, if_false, false_and, iff_false, Bool.false_eq_true] at this ⊢
          simp only [Option.map_none, reduceCtorEq, and_false, iff_false]
          intro ⟨⟨h1, h2⟩, h3⟩
          exact this ⟨h2, by omega⟩
      · constructor
        · intro ⟨h1, h2⟩
          exfalso
          obtain ⟨q', t, e1, e2⟩ := cutB_head 46 (r.take (nmLen r)) (b :: q) (not_dot hp)
          rw [← hr] at e1
          rw [e1] at h1
          simp only [List.all_cons, Bool.and_eq_true] at h1
          have h3 := isName_all h1.1
          unfold cutB at e2
          rw [if_neg hdot] at e2
          cases hc : cutB 46 q with
          | nil => exact cutB_ne _ _ hc
          | cons x y =>
            rw [hc] at e2
            simp only [List.cons.injEq] at e2
            rw [← e2.1] at h3
            simp [hb] at h3
        · intro ⟨h1, h2⟩
          simp [domTail, hdot] at h2; omega

theorem isDomain_iff (l : List UInt8) : isDomain l = (decide (domLen l = some l.length) && decide (l.length ≤ 20)) := by
  have := dom_parts 2 l
  unfold isDomain domLen
  congr 1
  rw [Bool.eq_iff_iff]
  simp only [Bool.and_eq_true, decide_eq_true_eq]
  rw [this]
  by_cases hg : nmGood l = true <;> simp [hg]

theorem isName_good {l : List UInt8} (hg : nmGood l = true) : isName l = decide (nmLen l = l.length) := by
  have h := nmLen_all l
  unfold nmGood at hg; unfold isName
  simp only [Bool.and_eq_true, decide_eq_true_eq] at hg
  rw [Bool.eq_iff_iff]; simp only [Bool.and_eq_true, decide_eq_true_eq, ← h]; omega
theorem isName_bad {l : List UInt8} (hg : nmGood l = false) : isName l = false := by
  have h := nmLen_all l
  unfold nmGood at hg; unfold isName
  rw [← Bool.not_eq_true] at hg ⊢
  simp only [Bool.and_eq_true, decide_eq_true_eq, ← h] at hg ⊢; omega
theorem isName_len {l : List UInt8} (h : isName l = true) : 1 ≤ l.length ∧ l.length ≤ 8 := by
  unfold isName at h; simp only [Bool.and_eq_true, decide_eq_true_eq] at h; omega

end Go.Proofs.YtahiahboneljaaaGreatDoor
namespace Go.Proofs.YtahiahboneljaaaGreatDoor
open Go

/-- An address at the head: the user, the domain, how many bytes. -/
def addr (r : List UInt8) : Option (List UInt8 × List UInt8 × Nat) :=
  if nmGood r = true ∧ (r.drop (nmLen r)).head? = some 64 then
    match domLen (r.drop (nmLen r + 1)) with
    | some d => if d ≤ 20 then some (r.take (nmLen r), (r.drop (nmLen r + 1)).take d, nmLen r + 1 + d) else none
    | none => none
  else none

theorem addr_le (r : List UInt8) (u d : List UInt8) (n : Nat) (h : addr r = some (u, d, n)) : n ≤ r.length := by
  unfold addr at h
  split at h
  · rename_i hg
    split at h
    · rename_i k hk
      have := domLen_le _ _ hk
      split at h
      · simp only [Option.some.injEq, Prod.mk.injEq] at h
        have h2 : nmLen r < r.length := by
          rcases Nat.lt_or_ge (nmLen r) r.length with h3 | h3
          · exact h3
          · have := hg.2; rw [List.drop_eq_nil_of_le h3] at this; simp at this
        simp at this; omega
      · simp at h
    · simp at h
  · simp at h

/-- The path of a text: the empty one has empty names. -/
def pathOf (l : List UInt8) : Option (List UInt8 × List UInt8) :=
  if l = [60, 62] then some ([], [])
  else if l.head? = some 60 then
    match addr l.tail with
    | some (u, d, n) => if l.tail.drop n = [62] then some (u, d) else none
    | none => none
  else none

/-- The address of a text, said by its parts. -/
def addrText (l : List UInt8) : Option (List UInt8 × List UInt8) :=
  match cutB 64 l with
  | [u, d] => if isName u && isDomain d then some (u, d) else none
  | _ => none

def pathText (l : List UInt8) : Option (List UInt8 × List UInt8) :=
  if l = [60, 62] then some ([], [])
  else if l.length < 2 ∨ l.head? ≠ some 60 ∨ l.getLast? ≠ some 62 then none
  else addrText (l.tail.take (l.length - 2))

theorem nmLen_stop (p : List UInt8) (b : UInt8) (q : List UInt8) (h : p.all nmB = true) (hb : nmB b = false) : nmLen (p ++ b :: q) = p.length := by
  rw [nmLen_append _ _ h]; simp [nmLen, hb]

theorem nmGood_of {p : List UInt8} (h : isName p = true) (b : UInt8) (q : List UInt8) (hb : nmB b = false) : nmGood (p ++ b :: q) = true := by
  have h1 := isName_len h
  unfold nmGood; rw [nmLen_stop p b q (isName_all h) hb]; simp; omega

theorem domTail_cons (n : Nat) (x : UInt8) (r : List UInt8) : domTail (n + 1) (x :: r) = if x = 46 then (if nmGood r = true then (domTail n (r.drop (nmLen r))).map (· + (1 + nmLen r)) else none) else some 0 := by
  show (if (some x : Option UInt8) = some 46 then _ else _) = _
  by_cases h : x = 46
  · rw [if_pos (by rw [h]), if_pos h]; rfl
  · rw [if_neg (by simpa using h), if_neg h]

/-- A domain in a text goes on as long as it can: what follows begins with neither a dot nor a byte of a name. -/
theorem domTail_more (n : Nat) (r q : List UInt8) (b : UInt8) (hb : nmB b = false) (hdot : b ≠ 46) (h : (domTail n r) = some r.length) : domTail n (r ++ b :: q) = some r.length := by
  induction n generalizing r with
  | zero => simp [domTail] at h; simp [domTail, h]
  | succ n ih =>
    cases r with
    | nil => simp [domTail, hdot]
    | cons x r' =>
      rw [List.cons_append]
      rw [domTail_cons] at h ⊢
      by_cases hx : x = 46
      · rw [if_pos hx] at h ⊢
        by_cases hg : nmGood r' = true
        · rw [if_pos hg] at h
          have hle := nmLen_le r'
          have e1 : nmLen (r' ++ b :: q) = nmLen r' := by
            rcases drop_nmLen r' with hd | ⟨y, z, hd, hy⟩
            · have hr : r'.take (nmLen r') = r' := by have := List.take_append_drop (nmLen r') r'; rw [hd] at this; simpa using this
              have hall := take_nmLen r'
              rw [hr] at hall
              rw [nmLen_stop _ _ _ hall hb]
              exact ((nmLen_all r').2 hall).symm
            · have hr : r' = r'.take (nmLen r') ++ y :: z := by have := List.take_append_drop (nmLen r') r'; rw [hd] at this; exact this.symm
              conv => lhs; rw [hr]
              rw [List.append_assoc, List.cons_append, nmLen_stop _ _ _ (take_nmLen r') hy]
              simp; omega
          have hg' : nmGood (r' ++ b :: q) = true := by unfold nmGood at hg ⊢; rw [e1]; exact hg
          rw [if_pos hg', e1, List.drop_append_of_le_length hle]
          cases hd : domTail n (r'.drop (nmLen r')) with
          | none => rw [hd] at h; cases h
          | some k =>
            rw [hd] at h
            simp only [Option.map_some, Option.some.injEq, List.length_cons] at h
            have hk : domTail n (r'.drop (nmLen r')) = some (r'.drop (nmLen r')).length := by rw [hd]; simp; omega
            rw [ih _ hk]
            simp; omega
        · rw [if_neg hg] at h; cases h
      · rw [if_neg hx] at h; simp at h

theorem domLen_more (r q : List UInt8) (b : UInt8) (hb : nmB b = false) (hdot : b ≠ 46) (h : domLen r = some r.length) : domLen (r ++ b :: q) = some r.length := by
  unfold domLen at h ⊢
  by_cases hg : nmGood r = true
  · rw [if_pos hg] at h
    have hle := nmLen_le r
    have e1 : nmLen (r ++ b :: q) = nmLen r := by
      rcases drop_nmLen r with hd | ⟨y, z, hd, hy⟩
      · have hr : r.take (nmLen r) = r := by have := List.take_append_drop (nmLen r) r; rw [hd] at this; simpa using this
        have hall := take_nmLen r
        rw [hr] at hall
        rw [nmLen_stop _ _ _ hall hb]
        exact ((nmLen_all r).2 hall).symm
      · have hr : r = r.take (nmLen r) ++ y :: z := by have := List.take_append_drop (nmLen r) r; rw [hd] at this; exact this.symm
        conv => lhs; rw [hr]
        rw [List.append_assoc, List.cons_append, nmLen_stop _ _ _ (take_nmLen r) hy]
        simp; omega
    have hg' : nmGood (r ++ b :: q) = true := by unfold nmGood at hg ⊢; rw [e1]; exact hg
    rw [if_pos hg', e1, List.drop_append_of_le_length hle]
    cases hd : domTail 2 (r.drop (nmLen r)) with
    | none => rw [hd] at h; cases h
    | some k =>
      rw [hd] at h
      simp only [Option.map_some, Option.some.injEq] at h
      have hk : domTail 2 (r.drop (nmLen r)) = some (r.drop (nmLen r)).length := by rw [hd]; simp; omega
      rw [domTail_more 2 _ q b hb hdot hk]
      simp; omega
  · rw [if_neg hg] at h; cases h

/-- What a domain takes up is a domain by itself. -/
theorem domTail_take (n : Nat) (r : List UInt8) (k : Nat) (h : domTail n r = some k) : domTail n (r.take k) = some k := by
  induction n generalizing r k with
  | zero => simp [domTail] at h ⊢; omega
  | succ n ih =>
    unfold domTail at h
    by_cases hh : r.head? = some 46
    · rw [if_pos hh] at h
      by_cases hg : nmGood r.tail = true
      · rw [if_pos hg] at h
        cases r with
        | nil => simp at hh
        | cons x r' =>
          simp only [List.tail_cons, List.head?_cons, Option.some.injEq] at h hh hg
          cases hd : domTail n (r'.drop (nmLen r')) with
          | none => rw [hd] at h; cases h
          | some m =>
            rw [hd] at h
            simp only [Option.map_some, Option.some.injEq] at h
            have hm := ih _ _ hd
            have hle := nmLen_le r'
            have hml := domTail_le _ _ _ hd
            simp at hml
            obtain ⟨j, rfl⟩ : ∃ j, k = j + 1 := ⟨k - 1, by omega⟩
            have hj : j = m + nmLen r' := by omega
            have e1 : nmLen (r'.take j) = nmLen r' := by
              have h3 : r'.take j = r'.take (nmLen r') ++ (r'.drop (nmLen r')).take m := by
                rw [hj, Nat.add_comm m, List.take_add]
              rw [h3, nmLen_append _ _ (take_nmLen r')]
              have h4 : nmLen ((r'.drop (nmLen r')).take m) = 0 := by
                rcases drop_nmLen r' with hd' | ⟨y, z, hd', hy⟩
                · rw [hd']; simp [nmLen]
                · rw [hd']; cases m <;> simp [nmLen, hy]
              rw [h4]; simp; omega
            unfold domTail
            simp only [List.take_succ_cons, List.head?_cons, List.tail_cons, hh, if_true]
            have hg' : nmGood (r'.take j) = true := by unfold nmGood at hg ⊢; rw [e1]; exact hg
            rw [if_pos hg', e1]
            have h5 : (r'.take j).drop (nmLen r') = (r'.drop (nmLen r')).take m := by
              rw [List.drop_take, hj, Nat.add_sub_cancel]
            rw [h5, hm]
            simp; omega
      · rw [if_neg hg] at h; cases h
    · rw [if_neg hh] at h
      simp only [Option.some.injEq] at h
      subst h
      simp [domTail]

theorem domLen_take (r : List UInt8) (k : Nat) (h : domLen r = some k) : domLen (r.take k) = some k := by
  unfold domLen at h
  by_cases hg : nmGood r = true
  · rw [if_pos hg] at h
    cases hd : domTail 2 (r.drop (nmLen r)) with
    | none => rw [hd] at h; cases h
    | some m =>
      rw [hd] at h
      simp only [Option.map_some, Option.some.injEq] at h
      have hm := domTail_take _ _ _ hd
      have hle := nmLen_le r
      have hml := domTail_le _ _ _ hd
      simp at hml
      have e1 : nmLen (r.take k) = nmLen r := by
        have h3 : r.take k = r.take (nmLen r) ++ (r.drop (nmLen r)).take m := by
          rw [← h, Nat.add_comm m, List.take_add]
        rw [h3, nmLen_append _ _ (take_nmLen r)]
        have h4 : nmLen ((r.drop (nmLen r)).take m) = 0 := by
          rcases drop_nmLen r with hd' | ⟨y, z, hd', hy⟩
          · rw [hd']; simp [nmLen]
          · rw [hd']; cases m <;> simp [nmLen, hy]
        rw [h4]; simp; omega
      unfold domLen
      have hg' : nmGood (r.take k) = true := by unfold nmGood at hg ⊢; rw [e1]; exact hg
      rw [if_pos hg', e1]
      have h5 : (r.take k).drop (nmLen r) = (r.drop (nmLen r)).take m := by
        rw [List.drop_take, ← h, Nat.add_sub_cancel]
      rw [h5, hm]
      simp; omega
  · rw [if_neg hg] at h; cases h

/-- An address with a sign behind it: by the cursor and by the parts. -/
theorem addr_text (m : List UInt8) : (match addr (m ++ [62]) with | some (u, d, n) => if (m ++ [(62 : UInt8)]).drop n = [62] then some (u, d) else none | none => none) = addrText m := by
  have hp := take_nmLen (m ++ [62])
  have hm : nmLen (m ++ [62]) = nmLen m := by
    rcases drop_nmLen m with hd | ⟨y, z, hd, hy⟩
    · have hr : m.take (nmLen m) = m := by have := List.take_append_drop (nmLen m) m; rw [hd] at this; simpa using this
      have hall := take_nmLen m
      rw [hr] at hall
      rw [nmLen_stop _ _ _ hall (by decide)]
      exact ((nmLen_all m).2 hall).symm
    · have hr : m = m.take (nmLen m) ++ y :: z := by have := List.take_append_drop (nmLen m) m; rw [hd] at this; exact this.symm
      have hle := nmLen_le m
      conv => lhs; rw [hr]
      rw [List.append_assoc, List.cons_append, nmLen_stop _ _ _ (take_nmLen m) hy]
      simp; omega
  have hle := nmLen_le m
  by_cases hat : nmGood m = true ∧ (m.drop (nmLen m)).head? = some 64
  · obtain ⟨hg, hh⟩ := hat
    obtain ⟨q, hq⟩ : ∃ q, m.drop (nmLen m) = 64 :: q := by
      cases hx : m.drop (nmLen m) with
      | nil => rw [hx] at hh; simp at hh
      | cons x q => rw [hx] at hh; simp at hh; exact ⟨q, by rw [hh]⟩
    have hmm : m = m.take (nmLen m) ++ 64 :: q := by have := List.take_append_drop (nmLen m) m; rw [hq] at this; exact this.symm
    have hu := take_nmLen m
    generalize hU : m.take (nmLen m) = U at *
    have hUl : U.length = nmLen m := by rw [← hU]; simp; omega
    have hname : isName U = true := by rw [← hU, isName_take]; exact hg
    have e1 : cutB 64 m = U :: cutB 64 q := by
      conv => lhs; rw [hmm]
      exact cutB_free _ _ _ (not_at hu)
    have e2 : addr (m ++ [62]) = match domLen (q ++ [62]) with
        | some d => if d ≤ 20 then some (U, (q ++ [62]).take d, nmLen m + 1 + d) else none
        | none => none := by
      unfold addr
      rw [hm, if_pos]
      · have h1 : (m ++ [62]).drop (nmLen m + 1) = q ++ [62] := by
          rw [← List.drop_drop, List.drop_append_of_le_length hle, hq]; simp
        have h2 : (m ++ [62]).take (nmLen m) = U := by rw [List.take_append_of_le_length hle, hU]
        rw [h1, h2]
      · refine ⟨?_, ?_⟩
        · unfold nmGood at hg ⊢; rw [hm]; exact hg
        · rw [List.drop_append_of_le_length hle, hq]; simp
    rw [e2]
    unfold addrText
    rw [e1]
    by_cases hd : isDomain q = true
    · have hd2 := hd
      rw [isDomain_iff] at hd2
      simp only [Bool.and_eq_true, decide_eq_true_eq] at hd2
      have h3 := domLen_more q [] 62 (by decide) (by decide) hd2.1
      rw [h3]
      have h4 : cutB 64 q = [q] := by
        refine cutB_none _ _ ?_
        intro hc
        have h5 := isDomain_def q
        rw [hd] at h5
        have h6 : (cutB 46 q).all isName = true := by
          have := h5.symm; simp only [Bool.and_eq_true] at this; exact this.1.1
        -- an at sign would stand in a part
        have key : ∀ (l : List UInt8), (64 : UInt8) ∈ l → ∃ p ∈ cutB 46 l, (64 : UInt8) ∈ p := by
          intro l
          induction l with
          | nil => intro h; simp at h
          | cons b r ih =>
            intro h
            unfold cutB
            by_cases hb : b = 46
            · rw [if_pos hb]
              have : (64 : UInt8) ∈ r := by
                rcases List.mem_cons.1 h with h | h
                · rw [hb] at h; exact absurd h (by decide)
                · exact h
              obtain ⟨p, hp, hp2⟩ := ih this
              exact ⟨p, by simp [hp], hp2⟩
            · rw [if_neg hb]
              cases hr : cutB 46 r with
              | nil => exact absurd hr (cutB_ne _ _)
              | cons x y =>
                rcases List.mem_cons.1 h with h | h
                · exact ⟨b :: x, by simp, by rw [← h]; simp⟩
                · obtain ⟨p, hp, hp2⟩ := ih h
                  rw [hr] at hp
                  rcases List.mem_cons.1 hp with hp | hp
                  · exact ⟨b :: x, by simp, by rw [hp] at hp2; simp [hp2]⟩
                  · exact ⟨p, by simp [hp], hp2⟩
        obtain ⟨p, hp, hp2⟩ := key q hc
        exact not_at (isName_all (List.all_eq_true.1 h6 p hp)) hp2
      rw [h4]
      simp only [hname, hd, Bool.and_self, if_true, hd2.2]
      have h7 : (m ++ [(62 : UInt8)]).drop (nmLen m + 1 + q.length) = [62] := by
        have h8 : m.length = nmLen m + 1 + q.length := by
          have := congrArg List.length hmm; simp at this; omega
        rw [← h8]; simp
      simp [h7]
    · have hR : (match U :: cutB 64 q with | [u, d] => if (isName u && isDomain d) = true then some (u, d) else none | _ => none) = (none : Option (List UInt8 × List UInt8)) := by
        split
        · rename_i u d heq
          simp only [List.cons.injEq] at heq
          have h9 : cutB 64 q = [d] := heq.2
          have h10 : d = q := by
            by_cases hc : (64 : UInt8) ∈ q
            · exfalso
              obtain ⟨p, r, hpr⟩ := List.append_of_mem hc
              -- cutB of a list with the sign has two parts at least
              have key : ∀ (l : List UInt8), (64 : UInt8) ∈ l → 2 ≤ (cutB 64 l).length := by
                intro l
                induction l with
                | nil => intro h; simp at h
                | cons b r ih =>
                  intro h
                  unfold cutB
                  by_cases hb : b = 64
                  · rw [if_pos hb]; have := cutB_pos 64 r; simp; omega
                  · rw [if_neg hb]
                    have : (64 : UInt8) ∈ r := by
                      rcases List.mem_cons.1 h with h | h
                      · exact absurd h.symm hb
                      · exact h
                    have := ih this
                    cases hr : cutB 64 r with
                    | nil => exact absurd hr (cutB_ne _ _)
                    | cons x y => rw [hr] at this; simpa using this
              have := key q hc
              rw [h9] at this; simp at this
            · rw [cutB_none _ _ hc] at h9; simpa using h9.symm
          rw [h10]
          simp [hd]
        · rfl
      rw [hR]
      cases hdl : domLen (q ++ [62]) with
      | none => rfl
      | some d =>
        simp only
        by_cases h20 : d ≤ 20
        · rw [if_pos h20]
          simp only
          rw [if_neg]
          intro h11
          have h8 : m.length = nmLen m + 1 + q.length := by
            have := congrArg List.length hmm; simp at this; omega
          have h12 : d = q.length := by
            have := congrArg List.length h11; simp at this; omega
          have h13 := domLen_take _ _ hdl
          rw [h12] at h13
          simp at h13
          apply hd
          rw [isDomain_iff, h13]; simp; omega
        · rw [if_neg h20]
  · have e2 : addr (m ++ [62]) = none := by
      unfold addr
      rw [hm, if_neg]
      rintro ⟨h1, h2⟩
      apply hat
      refine ⟨?_, ?_⟩
      · unfold nmGood at h1 ⊢; rw [hm] at h1; exact h1
      · rw [List.drop_append_of_le_length hle] at h2
        cases hx : m.drop (nmLen m) with
        | nil => rw [hx] at h2; simp at h2
        | cons x y => rw [hx] at h2; simpa using h2
    rw [e2]
    simp only
    unfold addrText
    split
    · rename_i u d heq
      rw [if_neg]
      intro h
      simp only [Bool.and_eq_true] at h
      apply hat
      -- m is u, the sign, d
      have key : ∀ (l u : List UInt8) (t : List (List UInt8)), cutB 64 l = u :: t → t ≠ [] → ∃ r, l = u ++ 64 :: r := by
        intro l
        induction l with
        | nil => intro u t h ht; simp [cutB] at h; exact absurd h.2 (fun e => ht e)
        | cons b r ih =>
          intro u t h ht
          unfold cutB at h
          by_cases hb : b = 64
          · rw [if_pos hb] at h; simp only [List.cons.injEq] at h; exact ⟨r, by rw [← h.1, hb]; rfl⟩
          · rw [if_neg hb] at h
            cases hr : cutB 64 r with
            | nil => exact absurd hr (cutB_ne _ _)
            | cons x y =>
              rw [hr] at h
              simp only [List.cons.injEq] at h
              obtain ⟨r', hr'⟩ := ih x y hr (by rw [h.2]; exact ht)
              exact ⟨r', by rw [← h.1, hr']; rfl⟩
      obtain ⟨r, hr⟩ := key m u [d] heq (by simp)
      have hall := isName_all h.1
      have h14 := nmLen_stop u 64 r hall (by decide)
      rw [← hr] at h14
      refine ⟨?_, ?_⟩
      · rw [hr]; exact nmGood_of h.1 64 r (by decide)
      · rw [h14, hr]; simp
    · rfl

theorem path_same (l : List UInt8) : pathOf l = pathText l := by
  unfold pathOf pathText
  by_cases h0 : l = [60, 62]
  · rw [if_pos h0, if_pos h0]
  rw [if_neg h0, if_neg h0]
  by_cases hh : l.head? = some 60
  · rw [if_pos hh]
    obtain ⟨r, rfl⟩ : ∃ r, l = 60 :: r := by
      cases l with
      | nil => simp at hh
      | cons x r => simp at hh; exact ⟨r, by rw [hh]⟩
    show (match addr r with | some (u, d, n) => if r.drop n = [(62 : UInt8)] then some (u, d) else none | none => none) =
      if r.length + 1 < 2 ∨ (some 60 : Option UInt8) ≠ some 60 ∨ (60 :: r).getLast? ≠ some 62 then none else addrText (r.take (r.length + 1 - 2))
    by_cases hlast : r ≠ [] ∧ r.getLast? = some 62
    · obtain ⟨hne, hl⟩ := hlast
      obtain ⟨m, rfl⟩ : ∃ m, r = m ++ [62] := by
        rw [List.getLast?_eq_some_iff] at hl; exact hl
      rw [if_neg (by rw [List.getLast?_cons]; simp)]
      have e1 : (m ++ [(62 : UInt8)]).take ((m ++ [(62 : UInt8)]).length + 1 - 2) = m := by simp
      rw [e1]
      exact addr_text m
    · have hR : r.length + 1 < 2 ∨ (some 60 : Option UInt8) ≠ some 60 ∨ (60 :: r).getLast? ≠ some 62 := by
        by_cases hr : r = []
        · left; rw [hr]; simp
        · right; right
          intro h; apply hlast
          refine ⟨hr, ?_⟩
          rw [List.getLast?_cons] at h
          rw [List.getLast?_eq_some_getLast hr] at h ⊢
          simpa using h
      rw [if_pos hR]
      cases ha : addr r with
      | none => rfl
      | some x =>
        obtain ⟨u, d, n⟩ := x
        show (if r.drop n = [(62 : UInt8)] then some (u, d) else none) = none
        rw [if_neg]
        intro hd
        apply hlast
        have h1 := List.take_append_drop n r
        rw [hd] at h1
        constructor
        · intro e; rw [e] at hd; simp at hd
        · rw [← h1]; simp
  · rw [if_neg hh, if_pos (by simp [hh])]
end Go.Proofs.YtahiahboneljaaaGreatDoor
namespace Go.Proofs.YtahiahboneljaaaGreatDoor
open Go

theorem blt_irrefl (a : List UInt8) : Op.bytesLess a a = false := by
  induction a with
  | nil => rfl
  | cons x r ih => simp [Op.bytesLess, ih]
theorem blt_tri (a b : List UInt8) : (Op.bytesLess a b || a == b) = !(Op.bytesLess b a) := by
  induction a generalizing b with
  | nil => cases b <;> simp [Op.bytesLess]
  | cons x r ih =>
    cases b with
    | nil => simp [Op.bytesLess]
    | cons y s =>
      have h := ih s
      simp only [Op.bytesLess]
      by_cases hxy : x = y
      · subst hxy
        simp only [beq_self_eq_true, Bool.true_and, UInt8.lt_irrefl, decide_false, Bool.false_or]
        rw [← h]; simp
      · have h1 : (x == y) = false := by simpa using hxy
        have h2 : (y == x) = false := by simpa using fun e => hxy e.symm
        have h3 : (x :: r == y :: s) = false := by simp [hxy]
        rw [h1, h2, h3]
        simp only [Bool.false_and, Bool.or_false]
        rw [Bool.eq_iff_iff]
        simp only [decide_eq_true_eq, Bool.not_eq_true', decide_eq_false_iff_not]
        constructor
        · intro h4 h5; exact absurd (UInt8.lt_trans h4 h5) (UInt8.lt_irrefl _)
        · intro h4
          rw [UInt8.lt_iff_toNat_lt] at h4 ⊢
          have h5 : x.toNat ≠ y.toNat := fun e => hxy (UInt8.toNat_inj.1 e)
          omega

structure Usr where
  name : List UInt8
  pass : List UInt8
  quota : Int

/-- "anyone" -/
def anyoneL : List UInt8 := [97, 110, 121, 111, 110, 101]

def usrOk (u : Usr) : Bool := (((isName u.name && !(u.name == anyoneL)) && isName u.pass) && decide (0 ≤ u.quota)) && decide (u.quota ≤ 200)

/-- Each name is behind the one before. -/
def ascOk : List UInt8 → List Usr → Bool
  | _, [] => true
  | p, u :: r => (usrOk u && Op.bytesLess p u.name) && ascOk u.name r
def usersOk (us : List Usr) : Bool := (decide (1 ≤ us.length) && decide (us.length ≤ 4)) && ascOk [] us

/-- The last one's name. -/
def lastN : List UInt8 → List Usr → List UInt8
  | p, [] => p
  | _, u :: r => lastN u.name r
theorem lastN_snoc (p : List UInt8) (a : List Usr) (u : Usr) : lastN p (a ++ [u]) = u.name := by
  induction a generalizing p with
  | nil => rfl
  | cons v s ih => exact ih _
theorem ascOk_append (p : List UInt8) (a b : List Usr) : ascOk p (a ++ b) = (ascOk p a && ascOk (lastN p a) b) := by
  induction a generalizing p with
  | nil => simp [ascOk, lastN]
  | cons u r ih => simp only [List.cons_append, ascOk, ih, lastN, Bool.and_assoc]
theorem ascOk_take {us : List Usr} {p : List UInt8} (k : Nat) (h : k < us.length) (hh : ascOk p (us.take k) = true) :
    ascOk p (us.take (k + 1)) = (usrOk us[k] && Op.bytesLess (lastN p (us.take k)) us[k].name) := by
  rw [List.take_succ_eq_append_getElem h, ascOk_append, hh]; simp [ascOk]
theorem ascOk_part {us : List Usr} {p : List UInt8} (k : Nat) (h : ascOk p (us.take k) = false) : ascOk p us = false := by
  have := ascOk_append p (us.take k) (us.drop k)
  rw [List.take_append_drop, h] at this; simpa using this

theorem lastN_take {us : List Usr} (k : Nat) (h0 : 0 < k) (h : k - 1 < us.length) : lastN [] (us.take k) = us[k - 1].name := by
  obtain ⟨m, rfl⟩ : ∃ m, k = m + 1 := ⟨k - 1, by omega⟩
  rw [List.take_succ_eq_append_getElem (by simpa using h), lastN_snoc]; rfl

/-- The place of a user, or none. -/
def usrAt (us : List Usr) (n : List UInt8) : Option Nat := us.findIdx? (·.name == n)
def usrFind (us : List Usr) (n : List UInt8) : Option Usr := us.find? (·.name == n)
def usrProve (us : List Usr) (n p : List UInt8) : Bool := usersOk us && (match usrFind us n with | some u => u.pass == p | none => false)
end Go.Proofs.YtahiahboneljaaaGreatDoor
namespace Go.Proofs.YtahiahboneljaaaGreatDoor
open Go

/-- Is a name among names? -/
def hasN (l : List (List UInt8)) (x : List UInt8) : Bool := l.contains x
theorem hasN_iff (l : List (List UInt8)) (x : List UInt8) : hasN l x = true ↔ x ∈ l := by unfold hasN; rw [List.contains_iff_mem]
theorem hasN_snoc {l : List (List UInt8)} {k : Nat} (hk : k < l.length) {x : List UInt8} (h : hasN (l.take k) x = false) (hx : l[k] ≠ x) : hasN (l.take (k + 1)) x = false := by
  rw [← Bool.not_eq_true, hasN_iff] at h ⊢
  rw [List.take_succ_eq_append_getElem hk, List.mem_append, List.mem_singleton]
  rintro (h1 | h1)
  · exact h h1
  · exact hx h1.symm

/-- Names, each none of those ahead of it. -/
def nmsOk : List (List UInt8) → List (List UInt8) → Bool
  | _, [] => true
  | s, x :: r => (isName x && !(hasN s x)) && nmsOk (s ++ [x]) r
theorem nmsOk_append (s a b : List (List UInt8)) : nmsOk s (a ++ b) = (nmsOk s a && nmsOk (s ++ a) b) := by
  induction a generalizing s with
  | nil => simp [nmsOk]
  | cons x r ih => simp only [List.cons_append, nmsOk, ih, Bool.and_assoc, List.append_assoc, List.nil_append]
theorem nmsOk_take {l : List (List UInt8)} (k : Nat) (h : k < l.length) (hh : nmsOk [] (l.take k) = true) :
    nmsOk [] (l.take (k + 1)) = (isName l[k] && !(hasN (l.take k) l[k])) := by
  rw [List.take_succ_eq_append_getElem h, nmsOk_append, hh]; simp [nmsOk]
theorem nmsOk_part {l : List (List UInt8)} (k : Nat) (h : nmsOk [] (l.take k) = false) : nmsOk [] l = false := by
  have := nmsOk_append [] (l.take k) (l.drop k)
  rw [List.take_append_drop, h] at this; simpa using this

theorem contains_bs (l : List (List UInt8)) (x : ByteArray) : Lib.containsS (l.map bs) x = hasN l x.data.toList := by
  rw [Bool.eq_iff_iff, Lib.containsS_iff, hasN_iff]
  simp only [List.mem_map]
  constructor
  · rintro ⟨a, ha, rfl⟩; simpa using ha
  · intro h; exact ⟨_, h, bs_of x⟩

/-- Receivers of a letter. -/
def rcvOk (l : List (List UInt8)) : Bool := (decide (1 ≤ l.length) && decide (l.length ≤ 3)) && nmsOk [] l
/-- Different names. -/
def difOk (l : List (List UInt8)) : Bool := nmsOk [] l && decide (l.length ≤ 3)

structure Sb where
  stage : Int
  user : List UInt8
  to : List (List UInt8)
  text : List UInt8

/-- A valid submission, stage by stage. -/
def subOk (s : Sb) : Bool :=
  if s.stage = 0 ∨ s.stage = 1 ∨ s.stage = 6 then (decide (s.user = []) && decide (s.to = [])) && decide (s.text = [])
  else if s.stage = 2 ∨ s.stage = 3 then (isName s.user && decide (s.to = [])) && decide (s.text = [])
  else if s.stage = 4 then (isName s.user && rcvOk s.to) && decide (s.text = [])
  else if s.stage = 5 then (isName s.user && rcvOk s.to) && decide (s.text.length ≤ 21)
  else false

/-- The same, as the reference says it. -/
def subOk2 (s : Sb) : Bool :=
  if !(decide (0 ≤ s.stage) && decide (s.stage ≤ 6)) || !difOk s.to || decide (21 < s.text.length) then false
  else if ((decide (2 ≤ s.stage) && decide (s.stage ≤ 5)) != isName s.user) || (!(decide (2 ≤ s.stage) && decide (s.stage ≤ 5)) && !decide (s.user = [])) then false
  else if (decide (s.stage = 4) || decide (s.stage = 5)) != decide (0 < s.to.length) then false
  else decide (s.stage = 5) || decide (s.text = [])

theorem isName_nil : isName [] = false := by decide
theorem nmsOk_nil : nmsOk [] [] = true := rfl

theorem subOk_same (s : Sb) : subOk2 s = subOk s := by
  have h1 := isName_nil
  by_cases hs : 0 ≤ s.stage ∧ s.stage ≤ 6
  · obtain ⟨ha, hb⟩ := hs
    have : s.stage = 0 ∨ s.stage = 1 ∨ s.stage = 2 ∨ s.stage = 3 ∨ s.stage = 4 ∨ s.stage = 5 ∨ s.stage = 6 := by omega
    rcases this with h | h | h | h | h | h | h <;> simp only [subOk, subOk2, h, difOk, rcvOk]
    all_goals
      rcases s with ⟨st, user, to, text⟩
      cases user <;> cases to <;> cases text <;> simp_all [nmsOk_nil, isName_nil]
    all_goals
      rw [Bool.eq_iff_iff]
      simp only [Bool.and_eq_true, Bool.not_eq_true', decide_eq_true_eq, decide_eq_false_iff_not]
      grind
  · have hn : ¬ (s.stage = 0 ∨ s.stage = 1 ∨ s.stage = 6) := by omega
    have hn2 : ¬ (s.stage = 2 ∨ s.stage = 3) := by omega
    have hn3 : ¬ s.stage = 4 := by omega
    have hn4 : ¬ s.stage = 5 := by omega
    unfold subOk subOk2
    rw [if_neg hn, if_neg hn2, if_neg hn3, if_neg hn4, if_pos]
    have : (decide (0 ≤ s.stage) && decide (s.stage ≤ 6)) = false := by
      rw [← Bool.not_eq_true]; simp; omega
    rw [this]; rfl
end Go.Proofs.YtahiahboneljaaaGreatDoor
namespace Go.Proofs.YtahiahboneljaaaGreatDoor
open Go

/-- The sign of a number of six bits. -/
def sgn (n : Nat) : UInt8 :=
  if n < 26 then UInt8.ofNat (65 + n) else if n < 52 then UInt8.ofNat (71 + n) else if n < 62 then UInt8.ofNat (n - 4) else if n = 62 then 43 else 47
/-- The number of a sign. -/
def sgv (b : UInt8) : Option Nat :=
  if 65 ≤ b.toNat ∧ b.toNat ≤ 90 then some (b.toNat - 65) else if 97 ≤ b.toNat ∧ b.toNat ≤ 122 then some (b.toNat - 71)
  else if 48 ≤ b.toNat ∧ b.toNat ≤ 57 then some (b.toNat + 4) else if b.toNat = 43 then some 62 else if b.toNat = 47 then some 63 else none
theorem sgv_sgn (n : Nat) (h : n < 64) : sgv (sgn n) = some n := by
  revert n; decide
theorem sgv_pad : sgv 61 = none := by decide
theorem sgv_lt {b : UInt8} {n : Nat} (h : sgv b = some n) : n < 64 := by
  unfold sgv at h; repeat' split at h
  all_goals first | (injection h with h; omega) | cases h

/-- Four signs for a group. -/
def four : List UInt8 → List UInt8
  | [] => []
  | [a] => [sgn (a.toNat / 4), sgn (a.toNat * 16 % 64), 61, 61]
  | [a, b] => [sgn (a.toNat / 4), sgn ((a.toNat * 16 + b.toNat / 16) % 64), sgn (b.toNat * 4 % 64), 61]
  | a :: b :: c :: _ => [sgn (a.toNat / 4), sgn ((a.toNat * 16 + b.toNat / 16) % 64), sgn ((b.toNat * 4 + c.toNat / 64) % 64), sgn (c.toNat % 64)]
/-- Groups of so many. -/
def grp (n : Nat) (l : List UInt8) : List (List UInt8) :=
  if _h : l = [] ∨ n = 0 then [] else l.take n :: grp n (l.drop n)
termination_by l.length
decreasing_by
  have : 0 < l.length := List.length_pos_iff.mpr (fun e => _h (.inl e))
  have : n ≠ 0 := fun e => _h (.inr e)
  simp; omega
theorem grp_nil (n : Nat) : grp n [] = [] := by unfold grp; simp
theorem grp_cons (n : Nat) (l : List UInt8) (hl : l ≠ []) (hn : n ≠ 0) : grp n l = l.take n :: grp n (l.drop n) := by
  rw [grp]; simp [hl, hn]

def enc (l : List UInt8) : List UInt8 := (grp 3 l).flatMap four
theorem enc_nil : enc [] = [] := by unfold enc; rw [grp_nil]; rfl
theorem enc_cons (l : List UInt8) (hl : l ≠ []) : enc l = four (l.take 3) ++ enc (l.drop 3) := by unfold enc; rw [grp_cons 3 l hl (by simp)]; rfl
theorem four_len (g : List UInt8) (h : g ≠ []) : (four g).length = 4 := by
  match g with
  | [] => exact absurd rfl h
  | [_] => rfl
  | [_, _] => rfl
  | _ :: _ :: _ :: _ => rfl

/-- The signs at the head: their number. -/
def sgns : List UInt8 → Nat
  | [] => 0
  | b :: r => if (sgv b).isSome then sgns r + 1 else 0
/-- The number that signs make. -/
def sgnN : Nat → List UInt8 → Nat
  | n, [] => n
  | n, b :: r => sgnN (n * 64 + (sgv b).getD 0) r
def three (n : Nat) : List UInt8 := [UInt8.ofNat (n / 65536), UInt8.ofNat (n / 256), UInt8.ofNat n]
/-- What the signs at a group's head suffice for. -/
def rdG (g : List UInt8) : List UInt8 := (three (sgnN 0 (g.take (sgns g)) * 64 ^ (4 - sgns g))).take (sgns g * 6 / 8)
def rdI (t : List UInt8) : List UInt8 := (grp 4 t).flatMap rdG
theorem rdI_cons (t : List UInt8) (ht : t ≠ []) : rdI t = rdG (t.take 4) ++ rdI (t.drop 4) := by unfold rdI; rw [grp_cons 4 t ht (by simp)]; rfl

theorem ofNat_toNat' (a : UInt8) (n : Nat) (h : n % 256 = a.toNat) : UInt8.ofNat n = a := by
  apply UInt8.toNat.inj; simp; exact h

theorem rdG_four (g : List UInt8) (h0 : g ≠ []) (h : g.length ≤ 3) : rdG (four g) = g := by
  match g, h with
  | [], _ => exact absurd rfl h0
  | [a], _ =>
    have ha := a.toNat_lt
    have e1 := sgv_sgn (a.toNat / 4) (by omega)
    have e2 := sgv_sgn (a.toNat * 16 % 64) (by omega)
    simp only [rdG, four, sgns, e1, e2, sgv_pad, Option.isSome_some, Option.isSome_none, if_true, Bool.false_eq_true, if_false, List.take, sgnN, Option.getD_some, three, Nat.reduceAdd, Nat.reduceMul, Nat.reduceDiv, Nat.reduceSub, Nat.reducePow]
    rw [ofNat_toNat' a _ (by omega)]
  | [a, b], _ =>
    have ha := a.toNat_lt
    have hb := b.toNat_lt
    have e1 := sgv_sgn (a.toNat / 4) (by omega)
    have e2 := sgv_sgn ((a.toNat * 16 + b.toNat / 16) % 64) (by omega)
    have e3 := sgv_sgn (b.toNat * 4 % 64) (by omega)
    simp only [rdG, four, sgns, e1, e2, e3, sgv_pad, Option.isSome_some, Option.isSome_none, if_true, Bool.false_eq_true, if_false, List.take, sgnN, Option.getD_some, three, Nat.reduceAdd, Nat.reduceMul, Nat.reduceDiv, Nat.reduceSub, Nat.reducePow]
    rw [ofNat_toNat' a _ (by omega), ofNat_toNat' b _ (by omega)]
  | [a, b, c], _ =>
    have ha := a.toNat_lt
    have hb := b.toNat_lt
    have hc := c.toNat_lt
    have e1 := sgv_sgn (a.toNat / 4) (by omega)
    have e2 := sgv_sgn ((a.toNat * 16 + b.toNat / 16) % 64) (by omega)
    have e3 := sgv_sgn ((b.toNat * 4 + c.toNat / 64) % 64) (by omega)
    have e4 := sgv_sgn (c.toNat % 64) (by omega)
    simp only [rdG, four, sgns, e1, e2, e3, e4, Option.isSome_some, if_true, List.take, sgnN, Option.getD_some, three, Nat.reduceAdd, Nat.reduceMul, Nat.reduceDiv, Nat.reduceSub, Nat.reducePow]
    rw [ofNat_toNat' a _ (by omega), ofNat_toNat' b _ (by omega), ofNat_toNat' c _ (by omega)]
  | a :: b :: c :: d :: r, h => simp at h

theorem take3_ne {l : List UInt8} (hl : l ≠ []) : l.take 3 ≠ [] := by
  cases l with
  | nil => exact absurd rfl hl
  | cons a r => simp
theorem rdI_enc (l : List UInt8) : rdI (enc l) = l := by
  induction hn : l.length using Nat.strongRecOn generalizing l with
  | _ n ih =>
    by_cases hl : l = []
    · subst hl; rw [enc_nil]; unfold rdI; rw [grp_nil]; rfl
    · have h0 : 0 < l.length := List.length_pos_iff.mpr hl
      have ht := take3_ne hl
      have h4 := four_len _ ht
      rw [enc_cons l hl, rdI_cons _ (by intro e; have := congrArg List.length e; simp [h4] at this),
        List.take_append_of_le_length (by omega), List.drop_append_of_le_length (by omega), List.take_of_length_le (by omega), List.drop_of_length_le (by omega),
        rdG_four _ ht (by simp; omega)]
      simp only [List.nil_append]
      rw [ih (l.drop 3).length (by simp; omega) _ rfl, List.take_append_drop]

theorem enc_inj {a b : List UInt8} (h : enc a = enc b) : a = b := by rw [← rdI_enc a, h, rdI_enc]

theorem enc_len (l : List UInt8) : (enc l).length = (l.length + 2) / 3 * 4 := by
  induction hn : l.length using Nat.strongRecOn generalizing l with
  | _ n ih =>
    by_cases hl : l = []
    · subst hl; simp at hn; subst hn; rw [enc_nil]; rfl
    · have h0 : 0 < l.length := List.length_pos_iff.mpr hl
      have ht := take3_ne hl
      rw [enc_cons l hl, List.length_append, four_len _ ht, ih (l.drop 3).length (by simp; omega) _ rfl]
      simp; omega

/-- The bytes of which a text is the base64, if there are such, and not too many. -/
def dec (t : List UInt8) : Option (List UInt8) :=
  if enc (rdI t) = t ∧ (rdI t).length ≤ 30 then some (rdI t) else none
theorem dec_iff {s t : List UInt8} : dec t = some s ↔ enc s = t ∧ s.length ≤ 30 := by
  unfold dec
  constructor
  · intro h
    split at h
    · next hx => injection h with h; subst h; exact hx
    · cases h
  · rintro ⟨h1, h2⟩
    subst h1
    rw [rdI_enc, if_pos ⟨rfl, h2⟩]
theorem dec_some {s t : List UInt8} (h : enc s = t) (hl : s.length ≤ 30) : dec t = some s := dec_iff.mpr ⟨h, hl⟩
theorem dec_none {t : List UInt8} (h : ∀ s, enc s = t → s.length ≤ 30 → False) : dec t = none := by
  cases hd : dec t with
  | none => rfl
  | some s => exact absurd (dec_iff.mp hd) fun ⟨h1, h2⟩ => h s h1 h2

end Go.Proofs.YtahiahboneljaaaGreatDoor
namespace Go.Proofs.YtahiahboneljaaaGreatDoor
open Go

/-- The reference's decoding: whole groups of four, all three bytes of each. -/
def decF : List UInt8 → List UInt8
  | a :: b :: c :: d :: r => three (sgnN 0 [a, b, c, d]) ++ decF r
  | _ => []
theorem decF_cons (t : List UInt8) (h : 4 ≤ t.length) : decF t = three (sgnN 0 (t.take 4)) ++ decF (t.drop 4) := by
  match t, h with
  | a :: b :: c :: d :: r, _ => rfl
theorem decF_short (t : List UInt8) (h : t.length < 4) : decF t = [] := by
  unfold decF
  split
  · simp at h; omega
  · rfl
theorem decF_four (g : List UInt8) (h0 : g ≠ []) (h : g.length ≤ 3) : three (sgnN 0 (four g)) = g ++ List.replicate (3 - g.length) 0 := by
  match g, h with
  | [], _ => exact absurd rfl h0
  | [a], _ =>
    have ha := a.toNat_lt
    have e1 := sgv_sgn (a.toNat / 4) (by omega)
    have e2 := sgv_sgn (a.toNat * 16 % 64) (by omega)
    simp only [four, sgnN, e1, e2, sgv_pad, Option.getD_some, Option.getD_none, three]
    rw [ofNat_toNat' a _ (by omega), ofNat_toNat' 0 _ (by simp; omega), ofNat_toNat' 0 _ (by simp; omega)]; rfl
  | [a, b], _ =>
    have ha := a.toNat_lt
    have hb := b.toNat_lt
    have e1 := sgv_sgn (a.toNat / 4) (by omega)
    have e2 := sgv_sgn ((a.toNat * 16 + b.toNat / 16) % 64) (by omega)
    have e3 := sgv_sgn (b.toNat * 4 % 64) (by omega)
    simp only [four, sgnN, e1, e2, e3, sgv_pad, Option.getD_some, Option.getD_none, three]
    rw [ofNat_toNat' a _ (by omega), ofNat_toNat' b _ (by omega), ofNat_toNat' 0 _ (by simp; omega)]; rfl
  | [a, b, c], _ =>
    have ha := a.toNat_lt
    have hb := b.toNat_lt
    have hc := c.toNat_lt
    have e1 := sgv_sgn (a.toNat / 4) (by omega)
    have e2 := sgv_sgn ((a.toNat * 16 + b.toNat / 16) % 64) (by omega)
    have e3 := sgv_sgn ((b.toNat * 4 + c.toNat / 64) % 64) (by omega)
    have e4 := sgv_sgn (c.toNat % 64) (by omega)
    simp only [four, sgnN, e1, e2, e3, e4, Option.getD_some, three]
    rw [ofNat_toNat' a _ (by omega), ofNat_toNat' b _ (by omega), ofNat_toNat' c _ (by omega)]; rfl
  | a :: b :: c :: d :: r, h => simp at h
theorem decF_enc (l : List UInt8) : ∃ z, z ≤ 2 ∧ decF (enc l) = l ++ List.replicate z 0 := by
  induction hn : l.length using Nat.strongRecOn generalizing l with
  | _ n ih =>
    by_cases hl : l = []
    · subst hl; exact ⟨0, by omega, by rw [enc_nil, decF_short _ (by simp)]; rfl⟩
    · have h0 : 0 < l.length := List.length_pos_iff.mpr hl
      have ht := take3_ne hl
      have h4 := four_len _ ht
      obtain ⟨z, hz, e⟩ := ih (l.drop 3).length (by simp; omega) _ rfl
      rw [enc_cons l hl, decF_cons _ (by simp; omega), List.take_append_of_le_length (by omega), List.drop_append_of_le_length (by omega), List.take_of_length_le (by omega), List.drop_of_length_le (by omega),
        decF_four _ ht (by simp; omega), List.nil_append]
      by_cases h3 : 3 ≤ l.length
      · refine ⟨z, hz, ?_⟩
        have : (l.take 3).length = 3 := by simp; omega
        rw [e, this]
        simp only [Nat.sub_self, List.replicate_zero, List.append_nil]
        rw [← List.append_assoc, List.take_append_drop]
      · refine ⟨3 - l.length, by omega, ?_⟩
        have e1 : l.drop 3 = [] := List.drop_of_length_le (by omega)
        have e2 : l.take 3 = l := List.take_of_length_le (by omega)
        rw [e1, e2, enc_nil, decF_short _ (by simp)]; simp

/-- The reference's search has found nothing. -/
theorem dec_miss {t : List UInt8} (h : ∀ k, k ≤ 2 → k ≤ (decF t).length → enc ((decF t).take ((decF t).length - k)) ≠ t) : dec t = none := by
  refine dec_none fun s h1 _ => ?_
  obtain ⟨z, hz, e⟩ := decF_enc s
  rw [h1] at e
  refine h z hz (by rw [e]; simp) ?_
  rw [e]; simp [h1]
theorem dec_hit {t s : List UInt8} (h : enc s = t) (hl : t.length ≤ 40) : dec t = some s := by
  refine dec_some h ?_
  have := enc_len s; rw [h] at this; omega
theorem dec_long {t : List UInt8} (h : 40 < t.length ∨ t.length % 4 ≠ 0) : dec t = none := by
  refine dec_none fun s h1 h2 => ?_
  have := enc_len s; rw [h1] at this; omega

/-- The user and the password of plain bytes. -/
def parseP (s : List UInt8) : Option (List UInt8 × List UInt8) := match cutB 0 s with
  | [e, u, p] => if e = [] ∧ isName u = true ∧ isName p = true then some (u, p) else none
  | _ => none
def plainP (t : List UInt8) : Option (List UInt8 × List UInt8) := (dec t).bind parseP
def plainU (us : List Usr) (t : List UInt8) : Option (List UInt8) := (plainP t).bind fun x => if usrProve us x.1 x.2 = true then some x.1 else none

def backP (s : Sb) : Sb := if 2 ≤ s.stage then ⟨2, s.user, [], []⟩ else ⟨s.stage, [], [], []⟩
def trimP : List UInt8 → List UInt8
  | [] => []
  | b :: r => if b = 46 then r else b :: r
def dataP (s : Sb) (l : List UInt8) : Sb × Int :=
  if l = [46] then (backP s, if 20 < s.text.length then 552 else 250) else (⟨s.stage, s.user, s.to, (s.text ++ trimP l ++ [10]).take 21⟩, 0)
def helloP (s : Sb) (ws : List (List UInt8)) : Sb × Int :=
  if ws.length = 2 ∧ isDomain (ws.getD 1 []) = true then (backP ⟨if s.stage = 0 then 1 else s.stage, s.user, s.to, s.text⟩, 250) else (s, 501)
def plainW : List UInt8 := [80, 76, 65, 73, 78]
def authP (s : Sb) (us : List Usr) (ws : List (List UInt8)) : Sb × Int :=
  if s.stage ≠ 1 then (s, 503) else if ¬ (ws.length = 3 ∧ ws.getD 1 [] = plainW) then (s, 501)
  else match plainU us (ws.getD 2 []) with | none => (s, 535) | some n => (⟨2, n, [], []⟩, 235)
/-- The address behind a beginning of a line. -/
def pathP (beg line : List UInt8) : Option (List UInt8 × List UInt8) :=
  if line.take beg.length = beg then (pathOf (line.drop beg.length)).bind fun x => if x.1 = [] then none else some x else none
def mailW : List UInt8 := [77, 65, 73, 76, 32, 70, 82, 79, 77, 58]
def toW : List UInt8 := [82, 67, 80, 84, 32, 84, 79, 58]
def mailP (s : Sb) (dom line : List UInt8) : Sb × Int :=
  if s.stage < 2 then (s, 530) else if s.stage ≠ 2 then (s, 503) else match pathP mailW line with
    | none => (s, 501)
    | some (u, d) => if u = s.user ∧ d = dom then (⟨3, s.user, s.to, s.text⟩, 250) else (s, 550)
def toP (s : Sb) (us : List Usr) (dom line : List UInt8) : Sb × Int :=
  if s.stage ≠ 3 ∧ s.stage ≠ 4 then (s, 503) else match pathP toW line with
    | none => (s, 501)
    | some (u, d) => if (usrFind us u).isSome = true ∧ d = dom then
        (if hasN s.to u = true then (s, 250) else if 3 ≤ s.to.length then (s, 452) else (⟨4, s.user, s.to ++ [u], s.text⟩, 250)) else (s, 550)
def restP (s : Sb) (line : List UInt8) : Sb × Int :=
  if line = [68, 65, 84, 65] then (if s.stage ≠ 4 then (s, 503) else (⟨5, s.user, s.to, s.text⟩, 354))
  else if line = [82, 83, 69, 84] then (backP s, 250)
  else if line = [78, 79, 79, 80] then (s, 250)
  else if line = [81, 85, 73, 84] then (⟨6, [], [], []⟩, 221)
  else (s, 500)
def lineP (s : Sb) (us : List Usr) (dom line : List UInt8) : Sb × Int :=
  if s.stage = 6 then (s, 503) else if s.stage = 5 then dataP s line
  else if (cutB 32 line).getD 0 [] = [69, 72, 76, 79] then helloP s (cutB 32 line)
  else if (cutB 32 line).getD 0 [] = [65, 85, 84, 72] then authP s us (cutB 32 line)
  else if (cutB 32 line).getD 0 [] = [77, 65, 73, 76] then mailP s dom line
  else if (cutB 32 line).getD 0 [] = [82, 67, 80, 84] then toP s us dom line
  else restP s line
/-- What a line does: and nothing, where an argument is not valid. -/
def subLineP (s : Sb) (us : List Usr) (dom line : List UInt8) : Sb × Int :=
  if subOk s = true ∧ usersOk us = true ∧ isDomain dom = true then lineP s us dom line else (⟨0, [], [], []⟩, -1)

/-- What of validity the lines lean on. -/
theorem subOk_use {s : Sb} (h : subOk s = true) : 0 ≤ s.stage ∧ s.stage ≤ 6 ∧ (s.stage < 2 → s.user = []) ∧ (s.stage ≠ 5 → s.text = []) ∧ (s.stage ≠ 4 → s.stage ≠ 5 → s.to = []) ∧ s.user.length ≤ 8 ∧ s.to.length ≤ 3 ∧ s.text.length ≤ 21 := by
  obtain ⟨st, u, t, x⟩ := s
  unfold subOk at h
  dsimp only at h ⊢
  split at h
  · next h1 =>
    simp at h
    obtain ⟨⟨rfl, rfl⟩, rfl⟩ := h
    simp; omega
  · next h1 =>
    split at h
    · next h2 =>
      simp at h
      obtain ⟨⟨hn, rfl⟩, rfl⟩ := h
      have := isName_len hn
      simp; omega
    · next h2 =>
      split at h
      · next h3 =>
        simp [rcvOk] at h
        obtain ⟨⟨hn, ⟨ht, hk⟩⟩, rfl⟩ := h
        have := isName_len hn
        simp; omega
      · next h3 =>
        split at h
        · next h4 =>
          simp [rcvOk] at h
          obtain ⟨⟨hn, ⟨ht, hk⟩⟩, hx⟩ := h
          have := isName_len hn
          refine ⟨by omega, by omega, fun _ => by omega, fun e => absurd h4 e, fun _ e => absurd h4 e, by omega, by omega, by omega⟩
        · cases h

end Go.Proofs.YtahiahboneljaaaGreatDoor
namespace Go.Proofs.YtahiahboneljaaaGreatDoor
open Go

/-- The signs, all of them. -/
def sgnS : ByteArray := ⟨#[65, 66, 67, 68, 69, 70, 71, 72, 73, 74, 75, 76, 77, 78, 79, 80, 81, 82, 83, 84, 85, 86, 87, 88, 89, 90, 97, 98, 99, 100, 101, 102, 103, 104, 105, 106, 107, 108, 109, 110, 111, 112, 113, 114, 115, 116, 117, 118, 119, 120, 121, 122, 48, 49, 50, 51, 52, 53, 54, 55, 56, 57, 43, 47]⟩
theorem sgnS_size : sgnS.size = 64 := by decide
theorem sgnS_list : sgnS.data.toList = (List.range 64).map sgn := by decide
theorem sgnS_get (n : Nat) (h : n < sgnS.size) : sgnS[n] = sgn n := by
  have h1 : sgnS[n] = sgnS.data.toList[n]'(by simpa using h) := rfl
  rw [h1]
  simp [sgnS_list]

/-- The bytes of a group, behind each other. -/
def b3 (g : List UInt8) : Nat → Nat
  | 0 => 0
  | i + 1 => b3 g i * 256 + (g.getD i 0).toNat
theorem b3_le (g : List UInt8) (i : Nat) : b3 g i < 256 ^ i := by
  induction i with
  | zero => simp [b3]
  | succ i ih => unfold b3; have := (g.getD i 0).toNat_lt; rw [Nat.pow_succ]; omega
theorem b3_bd (g : List UInt8) (i : Nat) (h : i ≤ 3) : b3 g i < 16777216 := by
  have h1 := b3_le g i
  have h2 : 256 ^ i ≤ 256 ^ 3 := Nat.pow_le_pow_right (by omega) h
  omega
/-- Sign number i of a group. -/
def sg4 (g : List UInt8) (i : Nat) : UInt8 := if g.length < i then 61 else sgn (b3 g 3 / 2 ^ (18 - 6 * i) % 64)
theorem four_eq (g : List UInt8) (h0 : g ≠ []) (h : g.length ≤ 3) : four g = (List.range 4).map (sg4 g) := by
  match g, h with
  | [], _ => exact absurd rfl h0
  | [a], _ =>
    have ha := a.toNat_lt
    simp only [four, List.range, List.range.loop, List.map_cons, List.map_nil, sg4, b3, List.length_cons, List.length_nil, List.getD_cons_zero, List.getD_cons_succ, List.getD_nil]
    simp
    refine ⟨?_, ?_⟩ <;> (congr 1; omega)
  | [a, b], _ =>
    have ha := a.toNat_lt
    have hb := b.toNat_lt
    simp only [four, List.range, List.range.loop, List.map_cons, List.map_nil, sg4, b3, List.length_cons, List.length_nil, List.getD_cons_zero, List.getD_cons_succ, List.getD_nil]
    simp
    refine ⟨?_, ?_, ?_⟩ <;> (congr 1; omega)
  | [a, b, c], _ =>
    have ha := a.toNat_lt
    have hb := b.toNat_lt
    have hc := c.toNat_lt
    simp only [four, List.range, List.range.loop, List.map_cons, List.map_nil, sg4, b3, List.length_cons, List.length_nil, List.getD_cons_zero, List.getD_cons_succ]
    simp
    refine ⟨?_, ?_, ?_, ?_⟩ <;> (congr 1; omega)
  | a :: b :: c :: d :: r, h => simp at h
theorem four_step (g : List UInt8) (i : Nat) : (List.range (i + 1)).map (sg4 g) = (List.range i).map (sg4 g) ++ [sg4 g i] := by
  rw [List.range_succ]; simp

theorem grp_mem (n : Nat) (l : List UInt8) (hn : n ≠ 0) : ∀ g ∈ grp n l, g ≠ [] ∧ g.length ≤ n := by
  induction hl : l.length using Nat.strongRecOn generalizing l with
  | _ m ih =>
    by_cases h : l = []
    · subst h; rw [grp_nil]; simp
    · have h0 : 0 < l.length := List.length_pos_iff.mpr h
      have hlt : (l.drop n).length < m := by rw [List.length_drop]; omega
      rw [grp_cons n l h hn]
      intro g hg
      rcases List.mem_cons.1 hg with rfl | hg
      · refine ⟨?_, by simp; omega⟩
        intro e; have := congrArg List.length e; rw [List.length_take, List.length_nil] at this; omega
      · exact ih _ hlt _ rfl g hg
theorem grp_len (n : Nat) (l : List UInt8) (hn : n ≠ 0) : (grp n l).length ≤ l.length := by
  induction hl : l.length using Nat.strongRecOn generalizing l with
  | _ m ih =>
    by_cases h : l = []
    · subst h; rw [grp_nil]; simp
    · have h0 : 0 < l.length := List.length_pos_iff.mpr h
      have hlt : (l.drop n).length < m := by rw [List.length_drop]; omega
      rw [grp_cons n l h hn]
      have h1 := ih _ hlt _ rfl
      rw [List.length_drop] at h1
      rw [List.length_cons]; omega
/-- The groups that stand ahead of place k, where k is a group's beginning. -/
theorem grp_at (n : Nat) (l : List UInt8) (k : Nat) (hn : n ≠ 0) (hk : k < l.length) : grp n (l.drop k) = (l.drop k).take n :: grp n (l.drop (k + n)) := by
  rw [grp_cons n (l.drop k) (by intro e; have := congrArg List.length e; simp at this; omega) hn, List.drop_drop]

/-- What a sign stands for: or -1. -/
def sgI (b : UInt8) : Int := match sgv b with | some n => (n : Int) | none => -1
theorem sgI_none {b : UInt8} (h : sgv b = none) : sgI b = -1 := by unfold sgI; rw [h]
theorem sgI_some {b : UInt8} {n : Nat} (h : sgv b = some n) : sgI b = n := by unfold sgI; rw [h]
theorem sgns_le (g : List UInt8) : sgns g ≤ g.length := by
  induction g with
  | nil => simp [sgns]
  | cons b r ih => unfold sgns; split <;> simp <;> omega
theorem sgns_get (g : List UInt8) (k : Nat) (h : k < sgns g) : ∃ h' : k < g.length, ∃ n, sgv g[k] = some n := by
  induction g generalizing k with
  | nil => simp [sgns] at h
  | cons b r ih =>
    unfold sgns at h
    split at h
    · next hb =>
      cases k with
      | zero => exact ⟨by simp, Option.isSome_iff_exists.1 hb⟩
      | succ k => obtain ⟨h1, h2⟩ := ih k (by omega); exact ⟨by simp; omega, by simpa using h2⟩
    · omega
theorem sgns_stop (g : List UInt8) (h : sgns g < g.length) : sgv (g[sgns g]) = none := by
  induction g with
  | nil => simp at h
  | cons b r ih =>
    cases hb : sgv b with
    | none =>
      have : sgns (b :: r) = 0 := by unfold sgns; rw [hb]; rfl
      simp only [this]; simpa using hb
    | some n =>
      have e : sgns (b :: r) = sgns r + 1 := by conv => lhs; unfold sgns; rw [hb]; simp
      simp only [e, List.getElem_cons_succ] at h ⊢
      exact ih (by simpa [e] using h)
theorem sgnN_snoc (n : Nat) (l : List UInt8) (b : UInt8) : sgnN n (l ++ [b]) = sgnN n l * 64 + (sgv b).getD 0 := by
  induction l generalizing n with
  | nil => rfl
  | cons x r ih => exact ih _
theorem sgnN_lt (n : Nat) (l : List UInt8) (k : Nat) (h : n < k) : sgnN n l < k * 64 ^ l.length := by
  induction l generalizing n k with
  | nil => simpa [sgnN] using h
  | cons x r ih =>
    unfold sgnN
    have hx : (sgv x).getD 0 < 64 := by
      cases hs : sgv x with
      | none => simp
      | some m => simpa using sgv_lt hs
    have := ih (n * 64 + (sgv x).getD 0) (k * 64) (by omega)
    rw [List.length_cons, Nat.pow_succ]
    calc _ < k * 64 * 64 ^ r.length := this
      _ = _ := by rw [Nat.mul_comm (64 ^ r.length), Nat.mul_assoc]
end Go.Proofs.YtahiahboneljaaaGreatDoor
namespace Go.Proofs.YtahiahboneljaaaGreatDoor
open Go

theorem split_first {c : UInt8} {l : List UInt8} (h : c ∈ l) : ∃ p r, l = p ++ c :: r ∧ c ∉ p := by
  induction l with
  | nil => cases h
  | cons b q ih =>
    by_cases e : b = c
    · exact ⟨[], q, by rw [e]; rfl, by simp⟩
    · have : c ∈ q := by
        rcases List.mem_cons.1 h with h | h
        · exact absurd h.symm e
        · exact h
      obtain ⟨p, r, h1, h2⟩ := ih this
      refine ⟨b :: p, r, by rw [h1]; rfl, ?_⟩
      simp only [List.mem_cons, not_or]
      exact ⟨fun e' => e e'.symm, h2⟩
theorem index_none {c : UInt8} {l : List UInt8} (h : c ∉ l) : Lib.index l [c] = -1 := by
  induction l with
  | nil => rfl
  | cons b q ih =>
    simp only [List.mem_cons, not_or] at h
    unfold Lib.index
    rw [ih h.2]
    have : ([c].isPrefixOf (b :: q)) = false := by simp [List.isPrefixOf, h.1]
    rw [this]; rfl
theorem index_some {c : UInt8} {p r : List UInt8} (h : c ∉ p) : Lib.index (p ++ c :: r) [c] = p.length := by
  induction p with
  | nil => unfold Lib.index; simp [List.isPrefixOf]
  | cons b q ih =>
    simp only [List.mem_cons, not_or] at h
    have hp : ([c].isPrefixOf (b :: (q ++ c :: r))) = false := by simp [List.isPrefixOf, h.1]
    show Lib.index (b :: (q ++ c :: r)) [c] = _
    unfold Lib.index
    rw [ih h.2, hp]
    have : ((q.length : Int) == -1) = false := by rw [beq_eq_false_iff_ne]; omega
    simp [this]

theorem splitK_cut (c : UInt8) (k : Nat) (l : List UInt8) (h : l.count c = k) : Lib.splitK [c] 0 k l = cutB c l := by
  induction k generalizing l with
  | zero =>
    have : c ∉ l := by rw [← List.count_eq_zero]; exact h
    rw [cutB_none _ _ this]; rfl
  | succ k ih =>
    have hm : c ∈ l := by rw [← List.count_pos_iff]; omega
    obtain ⟨p, r, rfl, hp⟩ := split_first hm
    rw [cutB_free _ _ _ hp]
    have hr : r.count c = k := by
      rw [List.count_append, List.count_cons_self, List.count_eq_zero.2 hp] at h; omega
    unfold Lib.splitK
    rw [index_some hp]
    have : ((p.length : Int) == -1) = false := by rw [beq_eq_false_iff_ne]; omega
    rw [this]
    simp only [Bool.false_eq_true, if_false, Int.toNat_natCast, Nat.add_zero, List.length_singleton]
    rw [List.take_left, List.drop_append, List.drop_of_length_le (by omega), show p.length + 1 - p.length = 1 by omega, List.drop_one, List.tail_cons, List.nil_append, ih r hr]
theorem count_cut (c : UInt8) (l : List UInt8) : (cutB c l).length = l.count c + 1 := by
  induction hk : l.count c generalizing l with
  | zero =>
    have : c ∉ l := by rw [← List.count_eq_zero]; exact hk
    rw [cutB_none _ _ this]; rfl
  | succ k ih =>
    have hm : c ∈ l := by rw [← List.count_pos_iff]; omega
    obtain ⟨p, r, rfl, hp⟩ := split_first hm
    rw [cutB_free _ _ _ hp]
    have hr : r.count c = k := by
      rw [List.count_append, List.count_cons_self, List.count_eq_zero.2 hp] at hk; omega
    rw [List.length_cons, ih r hr]

/-- The pieces of strings.Split at one byte. -/
theorem split_strs (s : ByteArray) (c : UInt8) : (Lib.splitB ⟨#[c]⟩ 0 (Lib.countB s ⟨#[c]⟩) s) = (cutB c s.data.toList).map bs := by
  have h1 := Lib.splitB_data ⟨#[c]⟩ 0 (Lib.countB s ⟨#[c]⟩) s
  have hc : Lib.countB s ⟨#[c]⟩ = s.data.toList.count c := Lib.count_one c s.data.toList
  rw [hc] at h1 ⊢
  rw [splitK_cut c _ _ rfl] at h1
  rw [← h1, List.map_map]
  conv => lhs; rw [← List.map_id (Lib.splitB _ _ _ _)]
  exact List.map_congr_left fun x _ => (bs_of x).symm

theorem cut_none {c : UInt8} {l : List UInt8} (h : c ∉ l) : Lib.cut l [c] = (l, [], false) := by
  unfold Lib.cut; rw [index_none h, if_neg (by omega)]
theorem cut_some {c : UInt8} {p r : List UInt8} (h : c ∉ p) : Lib.cut (p ++ c :: r) [c] = (p, r, true) := by
  unfold Lib.cut; rw [index_some h, if_pos (by omega)]
  simp

theorem not_zero {p : List UInt8} (h : isName p = true) : (0 : UInt8) ∉ p := by
  intro hm
  have := List.all_eq_true.1 (isName_all h) 0 hm
  exact absurd this (by decide)

theorem parse_no {s : List UInt8} (h : s.take 1 ≠ [0]) : parseP s = none := by
  unfold parseP
  split
  · next e u p heq =>
    rw [if_neg]
    rintro ⟨rfl, -⟩
    apply h
    cases s with
    | nil => simp [cutB] at heq
    | cons b r =>
      unfold cutB at heq
      split at heq
      · next hb => rw [hb]; rfl
      · cases hr : cutB 0 r with
        | nil => rw [hr] at heq; simp at heq
        | cons x y => rw [hr] at heq; simp at heq
  · rfl
theorem parse_yes (r : List UInt8) : parseP (0 :: r) = if (Lib.cut r [0]).2.2 = true ∧ isName (Lib.cut r [0]).1 = true ∧ isName (Lib.cut r [0]).2.1 = true then some ((Lib.cut r [0]).1, (Lib.cut r [0]).2.1) else none := by
  have e0 : cutB 0 (0 :: r) = [] :: cutB 0 r := by show (if (0 : UInt8) = 0 then _ else _) = _; rw [if_pos rfl]
  unfold parseP
  rw [e0]
  by_cases hm : (0 : UInt8) ∈ r
  · obtain ⟨p, q, rfl, hp⟩ := split_first hm
    rw [cut_some hp, cutB_free _ _ _ hp]
    by_cases hq : (0 : UInt8) ∈ q
    · have hn : isName q = false := by
        cases h : isName q with
        | false => rfl
        | true => exact absurd hq (not_zero h)
      rw [if_neg (by rw [hn]; simp)]
      have hl := count_cut 0 q
      have hc : 0 < q.count 0 := List.count_pos_iff.2 hq
      cases hcq : cutB 0 q with
      | nil => exact absurd hcq (cutB_ne _ _)
      | cons x y =>
        cases y with
        | nil => rw [hcq] at hl; simp at hl; omega
        | cons z t => rfl
    · rw [cutB_none _ _ hq]
      simp
  · rw [cut_none hm, cutB_none _ _ hm, if_neg (by simp)]
end Go.Proofs.YtahiahboneljaaaGreatDoor
namespace Go.Proofs.YtahiahboneljaaaGreatDoor
open Go

/-- What is valid, stage by stage. -/
theorem subOk_01 {u : List UInt8} {t : List (List UInt8)} {x : List UInt8} {st : Int} (hs : st = 0 ∨ st = 1 ∨ st = 6) : subOk ⟨st, u, t, x⟩ = true ↔ u = [] ∧ t = [] ∧ x = [] := by
  unfold subOk; rw [if_pos hs]; simp [and_assoc]
theorem subOk_23 {u : List UInt8} {t : List (List UInt8)} {x : List UInt8} {st : Int} (hs : st = 2 ∨ st = 3) : subOk ⟨st, u, t, x⟩ = true ↔ isName u = true ∧ t = [] ∧ x = [] := by
  unfold subOk; dsimp only; rw [if_neg (by omega), if_pos hs]; simp [and_assoc]
theorem subOk_4 {u : List UInt8} {t : List (List UInt8)} {x : List UInt8} : subOk ⟨4, u, t, x⟩ = true ↔ isName u = true ∧ rcvOk t = true ∧ x = [] := by
  unfold subOk; simp [and_assoc]
theorem subOk_5 {u : List UInt8} {t : List (List UInt8)} {x : List UInt8} : subOk ⟨5, u, t, x⟩ = true ↔ isName u = true ∧ rcvOk t = true ∧ x.length ≤ 21 := by
  unfold subOk; simp [and_assoc]
theorem subOk_name {s : Sb} (h : subOk s = true) (h2 : 2 ≤ s.stage) (h6 : s.stage ≠ 6) : isName s.user = true := by
  obtain ⟨g0, g6, -⟩ := subOk_use h
  obtain ⟨st, u, t, x⟩ := s
  dsimp only at h2 h6 g0 g6 ⊢
  have : st = 2 ∨ st = 3 ∨ st = 4 ∨ st = 5 := by omega
  rcases this with e | e | e | e
  · exact ((subOk_23 (.inl e)).1 h).1
  · exact ((subOk_23 (.inr e)).1 h).1
  · subst e; exact (subOk_4.1 h).1
  · subst e; exact (subOk_5.1 h).1
theorem back_ok {s : Sb} (h : subOk s = true) (h6 : s.stage ≠ 6) : subOk (backP s) = true := by
  unfold backP
  obtain ⟨g0, g6, -⟩ := subOk_use h
  split
  · next h2 => exact (subOk_23 (.inl rfl)).2 ⟨subOk_name h h2 h6, rfl, rfl⟩
  · next h2 => exact (subOk_01 (by omega)).2 ⟨rfl, rfl, rfl⟩
theorem pathP_name {beg l u d : List UInt8} (h : pathP beg l = some (u, d)) : isName u = true := by
  unfold pathP at h
  split at h
  · cases hp : pathOf (l.drop beg.length) with
    | none => rw [hp] at h; cases h
    | some x =>
      rw [hp] at h
      have h1 : (if x.1 = [] then none else some x) = some (u, d) := h
      split at h1
      · cases h1
      · next hne =>
        injection h1 with h1
        subst h1
        rw [path_same] at hp
        unfold pathText at hp
        split at hp
        · injection hp with hp; injection hp with h2 _; exact absurd h2.symm hne
        · split at hp
          · cases hp
          · unfold addrText at hp
            split at hp
            · split at hp
              · next hg =>
                injection hp with hp
                injection hp with h2 _
                subst h2
                simp only [Bool.and_eq_true] at hg
                exact hg.1
              · cases hp
            · cases hp
  · cases h
theorem plainU_name {us : List Usr} {t n : List UInt8} (h : plainU us t = some n) : isName n = true := by
  unfold plainU plainP at h
  cases hd : dec t with
  | none => rw [hd] at h; cases h
  | some s =>
    rw [hd] at h
    have h1 : ((parseP s).bind fun x => if usrProve us x.1 x.2 = true then some x.1 else none) = some n := h
    cases hp : parseP s with
    | none => rw [hp] at h1; cases h1
    | some x =>
      rw [hp] at h1
      have h2 : (if usrProve us x.1 x.2 = true then some x.1 else none) = some n := h1
      split at h2
      · injection h2 with h2
        subst h2
        unfold parseP at hp
        split at hp
        · split at hp
          · next hq => injection hp with hp; subst hp; exact hq.2.1
          · cases hp
        · cases hp
      · cases h2
theorem rcv_more {l : List (List UInt8)} {u : List UInt8} (h : l = [] ∨ rcvOk l = true) (hu : isName u = true) (hn : hasN l u = false) (h3 : ¬ 3 ≤ l.length) : rcvOk (l ++ [u]) = true := by
  have hk : nmsOk [] l = true := by
    rcases h with rfl | h
    · rfl
    · simp [rcvOk] at h; exact h.2
  unfold rcvOk
  rw [nmsOk_append, hk]
  simp [nmsOk, hu, hn]; omega

theorem line_ok {s : Sb} {us : List Usr} {dom l : List UInt8} (h : subOk s = true) : subOk (lineP s us dom l).1 = true := by
  unfold lineP
  split
  · exact h
  next h6 =>
  split
  · next h5 =>
    unfold dataP
    split
    · exact back_ok h h6
    · obtain ⟨st, u, t, x⟩ := s
      dsimp only at h5
      subst h5
      have := subOk_5.1 h
      exact subOk_5.2 ⟨this.1, this.2.1, by simp; omega⟩
  next h5 =>
  obtain ⟨g0, g6, gu, gx, gt, -⟩ := subOk_use h
  split
  · unfold helloP
    split
    · have hx := gx h5
      by_cases h0 : s.stage = 0
      · rw [if_pos h0]
        unfold backP
        rw [if_neg (by dsimp only; omega)]
        exact (subOk_01 (.inr (.inl rfl))).2 ⟨rfl, rfl, rfl⟩
      · rw [if_neg h0]; exact back_ok h h6
    · exact h
  split
  · unfold authP
    split
    · exact h
    · split
      · exact h
      · split
        · exact h
        · next n hn => exact (subOk_23 (.inl rfl)).2 ⟨plainU_name hn, rfl, rfl⟩
  split
  · unfold mailP
    split
    · exact h
    · split
      · exact h
      · next h2 =>
        split
        · exact h
        · split
          · refine (subOk_23 (.inr rfl)).2 ⟨subOk_name h (by omega) h6, gt (by omega) h5, gx h5⟩
          · exact h
  split
  · unfold toP
    split
    · exact h
    · next h34 =>
      split
      · exact h
      · next u d hp =>
        split
        · split
          · exact h
          · next hn =>
            split
            · exact h
            · next h3 =>
              refine subOk_4.2 ⟨subOk_name h (by omega) h6, rcv_more ?_ (pathP_name hp) (by simpa using hn) h3, gx h5⟩
              by_cases h4 : s.stage = 4
              · obtain ⟨st, u, t, x⟩ := s
                dsimp only at h4
                subst h4
                exact .inr (subOk_4.1 h).2.1
              · exact .inl (gt h4 h5)
        · exact h
  · unfold restP
    split
    · split
      · exact h
      · next h4 =>
        have h4' : s.stage = 4 := by omega
        obtain ⟨st, u, t, x⟩ := s
        dsimp only at h4'
        subst h4'
        have := subOk_4.1 h
        refine subOk_5.2 ⟨this.1, this.2.1, by rw [this.2.2]; simp⟩
    · split
      · exact back_ok h h6
      · split
        · exact h
        · split
          · exact (subOk_01 (.inr (.inr rfl))).2 ⟨rfl, rfl, rfl⟩
          · exact h
end Go.Proofs.YtahiahboneljaaaGreatDoor
