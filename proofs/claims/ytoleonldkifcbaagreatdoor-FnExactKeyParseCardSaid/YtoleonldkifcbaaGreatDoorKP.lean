/- The plain models, no program: names, domains, texts, sets, keys of a search, marks. -/
import Derived.WalkKit
import Derived.Lib.SlicesS
import Derived.Lib.SplitLaws
import Derived.Lib.CutLaws
namespace Go.Proofs.YtoleonldkifcbaaGreatDoor
open Go

/-- A byte of a name. -/
def nmB (b : UInt8) : Bool := (97 ≤ b && b ≤ 122) || (48 ≤ b && b ≤ 57)
/-- How many bytes of a name stand at the head. -/
def nmLen : List UInt8 → Nat
  | [] => 0
  | b :: r => if nmB b then nmLen r + 1 else 0
/-- A name. -/
def isName (l : List UInt8) : Bool := decide (1 ≤ l.length) && decide (l.length ≤ 8) && l.all nmB

theorem nmLen_le (l : List UInt8) : nmLen l ≤ l.length := by
  induction l with
  | nil => simp [nmLen]
  | cons b r ih => unfold nmLen; split <;> simp <;> omega

theorem nmLen_all (l : List UInt8) : nmLen l = l.length ↔ l.all nmB = true := by
  induction l with
  | nil => simp [nmLen]
  | cons b r ih =>
    have := nmLen_le r
    unfold nmLen
    by_cases h : nmB b = true
    · simp [h, ← ih]
    · simp [h]

theorem nmLen_get (l : List UInt8) (k : Nat) (h : k < nmLen l) : ∃ h' : k < l.length, nmB l[k] = true := by
  induction l generalizing k with
  | nil => simp [nmLen] at h
  | cons b r ih =>
    unfold nmLen at h
    by_cases hb : nmB b = true
    · rw [if_pos hb] at h
      cases k with
      | zero => exact ⟨by simp, by simpa using hb⟩
      | succ k => obtain ⟨h1, h2⟩ := ih k (by omega); exact ⟨by simp; omega, by simpa using h2⟩
    · rw [if_neg hb] at h; omega

/-- The end of the name at k in l. -/
def nmEnd (l : List UInt8) (k : Nat) : Nat := k + nmLen (l.drop k)
theorem nmEnd_ge (l : List UInt8) (k : Nat) : k ≤ nmEnd l k := by unfold nmEnd; omega
theorem nmEnd_le (l : List UInt8) (k : Nat) (h : k ≤ l.length) : nmEnd l k ≤ l.length := by
  unfold nmEnd; have := nmLen_le (l.drop k); simp at this; omega
theorem nmEnd_step (l : List UInt8) (k : Nat) (h : k < l.length) (hb : nmB l[k] = true) : nmEnd l k = nmEnd l (k + 1) := by
  unfold nmEnd; rw [List.drop_eq_getElem_cons h, nmLen, if_pos hb]; omega
theorem nmEnd_stop (l : List UInt8) (k : Nat) (h : k < l.length) (hb : nmB l[k] = false) : nmEnd l k = k := by
  unfold nmEnd; rw [List.drop_eq_getElem_cons h, nmLen, if_neg (by simp [hb])]; omega
theorem nmEnd_end (l : List UInt8) : nmEnd l l.length = l.length := by unfold nmEnd; simp [nmLen]

theorem nmB_iff (b : UInt8) : nmB b = decide (97 ≤ (b.toNat : Int) ∧ (b.toNat : Int) ≤ 122 ∨ 48 ≤ (b.toNat : Int) ∧ (b.toNat : Int) ≤ 57) := by
  unfold nmB
  rw [Bool.eq_iff_iff]
  simp [UInt8.le_iff_toNat_le]
  omega

theorem isName_iff (l : List UInt8) : isName l = (decide (1 ≤ nmEnd l 0 ∧ nmEnd l 0 ≤ 8) && (nmEnd l 0 == l.length)) := by
  have h := nmLen_all l
  have h2 := nmLen_le l
  unfold isName nmEnd
  simp only [List.drop_zero, Nat.zero_add]
  rw [Bool.eq_iff_iff]
  simp only [Bool.and_eq_true, decide_eq_true_eq, beq_iff_eq, ← h]
  omega

/-- The string of a list of bytes. -/
def bs (l : List UInt8) : ByteArray := ⟨l.toArray⟩
@[simp] theorem bs_toList (l : List UInt8) : (bs l).data.toList = l := by simp [bs]
@[simp] theorem bs_size (l : List UInt8) : (bs l).size = l.length := by simp [bs, ByteArray.size]
theorem bs_of (s : ByteArray) : bs s.data.toList = s := by cases s; simp [bs]
theorem bs_inj {a b : List UInt8} : bs a = bs b ↔ a = b := ⟨fun h => by have := congrArg (fun s : ByteArray => s.data.toList) h; simpa using this, fun h => by rw [h]⟩
theorem toList_inj {s t : ByteArray} : s.data.toList = t.data.toList ↔ s = t := ⟨fun h => by rw [← bs_of s, ← bs_of t, h], fun h => by rw [h]⟩
theorem extract_bs (s : ByteArray) (a b : Nat) : s.extract a b = bs ((s.data.toList.drop a).take (b - a)) := by
  rw [← toList_inj]
  simp [List.extract_eq_take_drop]

/-- Split at every byte c. -/
def cutB (c : UInt8) : List UInt8 → List (List UInt8)
  | [] => [[]]
  | b :: r => if b = c then [] :: cutB c r else match cutB c r with | [] => [[b]] | h :: t => (b :: h) :: t

theorem cutB_ne (c : UInt8) (l : List UInt8) : cutB c l ≠ [] := by
  cases l with
  | nil => simp [cutB]
  | cons b r => unfold cutB; split; simp; split <;> simp

theorem cutB_free (c : UInt8) (p r : List UInt8) (h : c ∉ p) : cutB c (p ++ c :: r) = p :: cutB c r := by
  induction p with
  | nil => simp [cutB]
  | cons b q ih =>
    simp only [List.mem_cons, not_or] at h
    simp only [List.cons_append, cutB]
    rw [if_neg (fun e => h.1 e.symm), ih h.2]

theorem cutB_none (c : UInt8) (p : List UInt8) (h : c ∉ p) : cutB c p = [p] := by
  induction p with
  | nil => simp [cutB]
  | cons b q ih =>
    simp only [List.mem_cons, not_or] at h
    simp only [cutB]
    rw [if_neg (fun e => h.1 e.symm), ih h.2]

/-- The first part begins with whatever stands ahead of the first c. -/
theorem cutB_head (c : UInt8) (p r : List UInt8) (h : c ∉ p) : ∃ q t, cutB c (p ++ r) = (p ++ q) :: t ∧ cutB c r = q :: t := by
  induction p with
  | nil =>
    cases hr : cutB c r with
    | nil => exact absurd hr (cutB_ne c r)
    | cons q t => exact ⟨q, t, by simp [hr], rfl⟩
  | cons b q ih =>
    simp only [List.mem_cons, not_or] at h
    obtain ⟨q', t, h1, h2⟩ := ih h.2
    refine ⟨q', t, ?_, h2⟩
    simp only [List.cons_append, cutB]
    rw [if_neg (fun e => h.1 e.symm), h1]

theorem cutB_no_sep (c : UInt8) (l : List UInt8) : ∀ p ∈ cutB c l, c ∉ p := by
  induction l with
  | nil => simp [cutB]
  | cons b r ih =>
    unfold cutB
    split
    · intro p hp
      simp only [List.mem_cons] at hp
      rcases hp with rfl | hp
      · simp
      · exact ih p hp
    · rename_i hb
      cases hr : cutB c r with
      | nil => exact absurd hr (cutB_ne c r)
      | cons h t =>
        rw [hr] at ih
        intro p hp
        simp only [List.mem_cons] at hp
        rcases hp with rfl | hp
        · simp only [List.mem_cons, not_or]
          exact ⟨fun e => hb e.symm, ih h (by simp)⟩
        · exact ih p (by simp [hp])

/-- The head of a name, 1 to 8 bytes. -/
def nmGood (r : List UInt8) : Bool := decide (1 ≤ nmLen r) && decide (nmLen r ≤ 8)

theorem take_nmLen (r : List UInt8) : (r.take (nmLen r)).all nmB = true := by
  induction r with
  | nil => simp [nmLen]
  | cons b q ih =>
    unfold nmLen
    by_cases h : nmB b = true
    · rw [if_pos h]; simp [h]; simpa using ih
    · rw [if_neg h]; simp

theorem drop_nmLen (r : List UInt8) : r.drop (nmLen r) = [] ∨ ∃ b q, r.drop (nmLen r) = b :: q ∧ nmB b = false := by
  induction r with
  | nil => simp [nmLen]
  | cons b q ih =>
    unfold nmLen
    by_cases h : nmB b = true
    · rw [if_pos h]; simpa using ih
    · rw [if_neg h]; exact .inr ⟨b, q, by simp, by simpa using h⟩

theorem isName_take (r : List UInt8) : isName (r.take (nmLen r)) = nmGood r := by
  have := nmLen_le r
  have h2 := take_nmLen r
  unfold isName nmGood
  rw [h2, List.length_take, Nat.min_eq_left this]; simp

theorem isName_all {l : List UInt8} (h : isName l = true) : l.all nmB = true := by
  unfold isName at h; simp only [Bool.and_eq_true] at h; exact h.2

/-- The rest of a domain: at most n names, each with a dot ahead of it; how many bytes. -/
def domTail : Nat → List UInt8 → Option Nat
  | 0, _ => some 0
  | n + 1, r =>
    if r.head? = some 46 then
      if nmGood r.tail then (domTail n (r.tail.drop (nmLen r.tail))).map (· + (1 + nmLen r.tail)) else none
    else some 0
/-- A domain at the head: how many bytes. -/
def domLen (r : List UInt8) : Option Nat :=
  if nmGood r then (domTail 2 (r.drop (nmLen r))).map (· + nmLen r) else none

theorem domTail_le (n : Nat) (r : List UInt8) (k : Nat) (h : domTail n r = some k) : k ≤ r.length := by
  induction n generalizing r k with
  | zero => simp [domTail] at h; omega
  | succ n ih =>
    unfold domTail at h
    split at h
    · rename_i hh
      split at h
      · cases hd : domTail n (r.tail.drop (nmLen r.tail)) with
        | none => rw [hd] at h; cases h
        | some k' =>
          have := ih _ _ hd
          have h1 := nmLen_le r.tail
          rw [hd] at h
          simp only [Option.map_some, Option.some.injEq] at h
          cases r with
          | nil => simp at hh
          | cons b q => simp only [List.tail_cons, List.length_drop, List.length_cons] at this h1 h ⊢; omega
      · simp at h
    · simp at h; omega

theorem domLen_le (r : List UInt8) (k : Nat) (h : domLen r = some k) : k ≤ r.length := by
  unfold domLen at h
  split at h
  · cases hd : domTail 2 (r.drop (nmLen r)) with
    | none => simp [hd] at h
    | some k' =>
      have := domTail_le _ _ _ hd
      have h1 := nmLen_le r
      simp [hd] at h; simp at this; omega
  · simp at h

/-- A domain. -/
def isDomain (l : List UInt8) : Bool := ((cutB 46 l).all isName && decide ((cutB 46 l).length ≤ 3)) && decide (l.length ≤ 20)

theorem isDomain_def (l : List UInt8) : isDomain l = (((cutB 46 l).all isName && decide ((cutB 46 l).length ≤ 3)) && decide (l.length ≤ 20)) := rfl
theorem cutB_pos (c : UInt8) (l : List UInt8) : 0 < (cutB c l).length := by
  cases h : cutB c l with
  | nil => exact absurd h (cutB_ne c l)
  | cons _ _ => simp
theorem cutB_len (c : UInt8) (l : List UInt8) : (cutB c l).length ≤ l.length + 1 := by
  induction l with
  | nil => simp [cutB]
  | cons b r ih => unfold cutB; split; simp; omega; split <;> simp_all; omega
theorem cutB_part (c : UInt8) (l : List UInt8) : ∀ p ∈ cutB c l, p.length ≤ l.length := by
  induction l with
  | nil => simp [cutB]
  | cons b r ih =>
    unfold cutB
    split
    · intro p hp
      simp only [List.mem_cons] at hp
      rcases hp with rfl | hp
      · simp
      · have := ih p hp; simp; omega
    · cases hr : cutB c r with
      | nil => simp
      | cons h t =>
        rw [hr] at ih
        intro p hp
        simp only [List.mem_cons] at hp
        rcases hp with rfl | hp
        · have := ih h (by simp); simp; omega
        · have := ih p (by simp [hp]); simp; omega

theorem not_dot {p : List UInt8} (h : p.all nmB = true) : (46 : UInt8) ∉ p := by
  intro hm
  have := List.all_eq_true.1 h 46 hm
  exact absurd this (by decide)

theorem not_at {p : List UInt8} (h : p.all nmB = true) : (64 : UInt8) ∉ p := by
  intro hm
  have := List.all_eq_true.1 h 64 hm
  exact absurd this (by decide)

theorem not_gt {p : List UInt8} (h : p.all nmB = true) : (62 : UInt8) ∉ p := by
  intro hm
  have := List.all_eq_true.1 h 62 hm
  exact absurd this (by decide)

theorem nmLen_append (p r : List UInt8) (h : p.all nmB = true) : nmLen (p ++ r) = p.length + nmLen r := by
  induction p with
  | nil => simp
  | cons b q ih =>
    simp only [List.all_cons, Bool.and_eq_true] at h
    simp only [List.cons_append, nmLen, h.1, if_true, List.length_cons]
    rw [ih h.2]; omega

/-- 'n + 1 names at most, dots between them', said by the parts and by the cursor. -/
theorem dom_parts (n : Nat) (r : List UInt8) :
    ((cutB 46 r).all isName = true ∧ (cutB 46 r).length ≤ n + 1) ↔ (nmGood r = true ∧ (domTail n (r.drop (nmLen r))).map (· + nmLen r) = some r.length) := by
  induction n generalizing r with
  | zero =>
    have hp := take_nmLen r
    have hle := nmLen_le r
    rcases drop_nmLen r with hd | ⟨b, q, hd, hb⟩
    · have hr : r.take (nmLen r) = r := by have := List.take_append_drop (nmLen r) r; rw [hd] at this; simpa using this
      have hlen : nmLen r = r.length := by have := congrArg List.length hr; simp at this; omega
      have := cutB_none 46 r (not_dot (by rw [← hr]; exact hp))
      rw [this]; simp [domTail, hlen]
      rw [← isName_take, hr]
    · have hr : r = r.take (nmLen r) ++ b :: q := by have := List.take_append_drop (nmLen r) r; rw [hd] at this; exact this.symm
      have hlen : nmLen r < r.length := by have := congrArg List.length hd; simp at this; omega
      constructor
      · intro ⟨h1, h2⟩
        exfalso
        obtain ⟨q', t, e1, e2⟩ := cutB_head 46 (r.take (nmLen r)) (b :: q) (not_dot hp)
        rw [← hr] at e1
        rw [e1] at h1 h2
        have ht : t = [] := by cases t with | nil => rfl | cons _ _ => simp at h2
        simp only [List.all_cons, Bool.and_eq_true] at h1
        have h3 := isName_all h1.1
        unfold cutB at e2
        split at e2
        · simp at e2; rw [ht] at e2; exact cutB_ne _ _ e2.2
        · cases hc : cutB 46 q with
          | nil => exact cutB_ne _ _ hc
          | cons x y =>
            rw [hc] at e2
            simp only [List.cons.injEq] at e2
            rw [← e2.1] at h3
            simp [hb] at h3
      · intro ⟨h1, h2⟩
        simp [domTail] at h2; omega
  | succ n ih =>
    have hp := take_nmLen r
    have hle := nmLen_le r
    rcases drop_nmLen r with hd | ⟨b, q, hd, hb⟩
    · have hr : r.take (nmLen r) = r := by have := List.take_append_drop (nmLen r) r; rw [hd] at this; simpa using this
      have hlen : nmLen r = r.length := by have := congrArg List.length hr; simp at this; omega
      have := cutB_none 46 r (not_dot (by rw [← hr]; exact hp))
      rw [this]; simp [domTail, hlen]
      rw [← isName_take, hr]
    · have hr : r = r.take (nmLen r) ++ b :: q := by have := List.take_append_drop (nmLen r) r; rw [hd] at this; exact this.symm
      have hlen : r.length = nmLen r + (q.length + 1) := by have := congrArg List.length hd; simp at this; omega
      rw [hd]
      by_cases hdot : b = 46
      · subst hdot
        have e1 : cutB 46 r = r.take (nmLen r) :: cutB 46 q := by
          have := cutB_free 46 (r.take (nmLen r)) q (not_dot hp)
          rw [← hr] at this; exact this
        have := ih q
        rw [e1]
        simp only [List.all_cons, isName_take, Bool.and_eq_true, List.length_cons, domTail, List.head?_cons, if_true, List.tail_cons]
        by_cases hg : nmGood q = true
        · simp only [hg, if_true, true_and] at this ⊢
          constructor
          · intro ⟨⟨h1, h2⟩, h3⟩
            obtain h4 := this.1 ⟨h2, by omega⟩
            refine ⟨h1, ?_⟩
            cases hx : domTail n (q.drop (nmLen q)) with
            | none => simp [hx] at h4
            | some k => simp [hx] at h4 ⊢; omega
          · intro ⟨h1, h2⟩
            have h4 : (domTail n (q.drop (nmLen q))).map (· + nmLen q) = some q.length := by
              cases hx : domTail n (q.drop (nmLen q)) with
              | none => simp [hx] at h2
              | some k => simp [hx] at h2 ⊢; omega
            have := this.2 h4
            exact ⟨⟨h1, this.1⟩, by omega⟩
        · simp only [hg, if_false, false_and, iff_false, Bool.false_eq_true] at this ⊢
          simp only [Option.map_none, reduceCtorEq, and_false, iff_false]
          intro ⟨⟨h1, h2⟩, h3⟩
          exact this ⟨h2, by omega⟩
      · constructor
        · intro ⟨h1, h2⟩
          exfalso
          obtain ⟨q', t, e1, e2⟩ := cutB_head 46 (r.take (nmLen r)) (b :: q) (not_dot hp)
          rw [← hr] at e1
          rw [e1] at h1
          simp only [List.all_cons, Bool.and_eq_true] at h1
          have h3 := isName_all h1.1
          unfold cutB at e2
          rw [if_neg hdot] at e2
          cases hc : cutB 46 q with
          | nil => exact cutB_ne _ _ hc
          | cons x y =>
            rw [hc] at e2
            simp only [List.cons.injEq] at e2
            rw [← e2.1] at h3
            simp [hb] at h3
        · intro ⟨h1, h2⟩
          simp [domTail, hdot] at h2; omega

theorem isDomain_iff (l : List UInt8) : isDomain l = (decide (domLen l = some l.length) && decide (l.length ≤ 20)) := by
  have := dom_parts 2 l
  unfold isDomain domLen
  congr 1
  rw [Bool.eq_iff_iff]
  simp only [Bool.and_eq_true, decide_eq_true_eq]
  rw [this]
  by_cases hg : nmGood l = true <;> simp [hg]

theorem isName_good {l : List UInt8} (hg : nmGood l = true) : isName l = decide (nmLen l = l.length) := by
  have h := nmLen_all l
  unfold nmGood at hg; unfold isName
  simp only [Bool.and_eq_true, decide_eq_true_eq] at hg
  rw [Bool.eq_iff_iff]; simp only [Bool.and_eq_true, decide_eq_true_eq, ← h]; omega
theorem isName_bad {l : List UInt8} (hg : nmGood l = false) : isName l = false := by
  have h := nmLen_all l
  unfold nmGood at hg; unfold isName
  rw [← Bool.not_eq_true] at hg ⊢
  simp only [Bool.and_eq_true, decide_eq_true_eq, ← h] at hg ⊢; omega
theorem isName_len {l : List UInt8} (h : isName l = true) : 1 ≤ l.length ∧ l.length ≤ 8 := by
  unfold isName at h; simp only [Bool.and_eq_true, decide_eq_true_eq] at h; omega

end Go.Proofs.YtoleonldkifcbaaGreatDoor
namespace Go.Proofs.YtoleonldkifcbaaGreatDoor
open Go

/-- An address at the head: the user, the domain, how many bytes. -/
def addr (r : List UInt8) : Option (List UInt8 × List UInt8 × Nat) :=
  if nmGood r = true ∧ (r.drop (nmLen r)).head? = some 64 then
    match domLen (r.drop (nmLen r + 1)) with
    | some d => if d ≤ 20 then some (r.take (nmLen r), (r.drop (nmLen r + 1)).take d, nmLen r + 1 + d) else none
    | none => none
  else none

theorem addr_le (r : List UInt8) (u d : List UInt8) (n : Nat) (h : addr r = some (u, d, n)) : n ≤ r.length := by
  unfold addr at h
  split at h
  · rename_i hg
    split at h
    · rename_i k hk
      have := domLen_le _ _ hk
      split at h
      · simp only [Option.some.injEq, Prod.mk.injEq] at h
        have h2 : nmLen r < r.length := by
          rcases Nat.lt_or_ge (nmLen r) r.length with h3 | h3
          · exact h3
          · have := hg.2; rw [List.drop_eq_nil_of_le h3] at this; simp at this
        simp at this; omega
      · simp at h
    · simp at h
  · simp at h

/-- The path of a text: the empty one has empty names. -/
def pathOf (l : List UInt8) : Option (List UInt8 × List UInt8) :=
  if l = [60, 62] then some ([], [])
  else if l.head? = some 60 then
    match addr l.tail with
    | some (u, d, n) => if l.tail.drop n = [62] then some (u, d) else none
    | none => none
  else none

/-- The address of a text, said by its parts. -/
def addrText (l : List UInt8) : Option (List UInt8 × List UInt8) :=
  match cutB 64 l with
  | [u, d] => if isName u && isDomain d then some (u, d) else none
  | _ => none

def pathText (l : List UInt8) : Option (List UInt8 × List UInt8) :=
  if l = [60, 62] then some ([], [])
  else if l.length < 2 ∨ l.head? ≠ some 60 ∨ l.getLast? ≠ some 62 then none
  else addrText (l.tail.take (l.length - 2))

theorem nmLen_stop (p : List UInt8) (b : UInt8) (q : List UInt8) (h : p.all nmB = true) (hb : nmB b = false) : nmLen (p ++ b :: q) = p.length := by
  rw [nmLen_append _ _ h]; simp [nmLen, hb]

theorem nmGood_of {p : List UInt8} (h : isName p = true) (b : UInt8) (q : List UInt8) (hb : nmB b = false) : nmGood (p ++ b :: q) = true := by
  have h1 := isName_len h
  unfold nmGood; rw [nmLen_stop p b q (isName_all h) hb]; simp; omega

theorem domTail_cons (n : Nat) (x : UInt8) (r : List UInt8) : domTail (n + 1) (x :: r) = if x = 46 then (if nmGood r = true then (domTail n (r.drop (nmLen r))).map (· + (1 + nmLen r)) else none) else some 0 := by
  show (if (some x : Option UInt8) = some 46 then _ else _) = _
  by_cases h : x = 46
  · rw [if_pos (by rw [h]), if_pos h]; rfl
  · rw [if_neg (by simpa using h), if_neg h]

/-- A domain in a text goes on as long as it can: what follows begins with neither a dot nor a byte of a name. -/
theorem domTail_more (n : Nat) (r q : List UInt8) (b : UInt8) (hb : nmB b = false) (hdot : b ≠ 46) (h : (domTail n r) = some r.length) : domTail n (r ++ b :: q) = some r.length := by
  induction n generalizing r with
  | zero => simp [domTail] at h; simp [domTail, h]
  | succ n ih =>
    cases r with
    | nil => simp [domTail, hdot]
    | cons x r' =>
      rw [List.cons_append]
      rw [domTail_cons] at h ⊢
      by_cases hx : x = 46
      · rw [if_pos hx] at h ⊢
        by_cases hg : nmGood r' = true
        · rw [if_pos hg] at h
          have hle := nmLen_le r'
          have e1 : nmLen (r' ++ b :: q) = nmLen r' := by
            rcases drop_nmLen r' with hd | ⟨y, z, hd, hy⟩
            · have hr : r'.take (nmLen r') = r' := by have := List.take_append_drop (nmLen r') r'; rw [hd] at this; simpa using this
              have hall := take_nmLen r'
              rw [hr] at hall
              rw [nmLen_stop _ _ _ hall hb]
              exact ((nmLen_all r').2 hall).symm
            · have hr : r' = r'.take (nmLen r') ++ y :: z := by have := List.take_append_drop (nmLen r') r'; rw [hd] at this; exact this.symm
              conv => lhs; rw [hr]
              rw [List.append_assoc, List.cons_append, nmLen_stop _ _ _ (take_nmLen r') hy]
              simp; omega
          have hg' : nmGood (r' ++ b :: q) = true := by unfold nmGood at hg ⊢; rw [e1]; exact hg
          rw [if_pos hg', e1, List.drop_append_of_le_length hle]
          cases hd : domTail n (r'.drop (nmLen r')) with
          | none => rw [hd] at h; cases h
          | some k =>
            rw [hd] at h
            simp only [Option.map_some, Option.some.injEq, List.length_cons] at h
            have hk : domTail n (r'.drop (nmLen r')) = some (r'.drop (nmLen r')).length := by rw [hd]; simp; omega
            rw [ih _ hk]
            simp; omega
        · rw [if_neg hg] at h; cases h
      · rw [if_neg hx] at h; simp at h

theorem domLen_more (r q : List UInt8) (b : UInt8) (hb : nmB b = false) (hdot : b ≠ 46) (h : domLen r = some r.length) : domLen (r ++ b :: q) = some r.length := by
  unfold domLen at h ⊢
  by_cases hg : nmGood r = true
  · rw [if_pos hg] at h
    have hle := nmLen_le r
    have e1 : nmLen (r ++ b :: q) = nmLen r := by
      rcases drop_nmLen r with hd | ⟨y, z, hd, hy⟩
      · have hr : r.take (nmLen r) = r := by have := List.take_append_drop (nmLen r) r; rw [hd] at this; simpa using this
        have hall := take_nmLen r
        rw [hr] at hall
        rw [nmLen_stop _ _ _ hall hb]
        exact ((nmLen_all r).2 hall).symm
      · have hr : r = r.take (nmLen r) ++ y :: z := by have := List.take_append_drop (nmLen r) r; rw [hd] at this; exact this.symm
        conv => lhs; rw [hr]
        rw [List.append_assoc, List.cons_append, nmLen_stop _ _ _ (take_nmLen r) hy]
        simp; omega
    have hg' : nmGood (r ++ b :: q) = true := by unfold nmGood at hg ⊢; rw [e1]; exact hg
    rw [if_pos hg', e1, List.drop_append_of_le_length hle]
    cases hd : domTail 2 (r.drop (nmLen r)) with
    | none => rw [hd] at h; cases h
    | some k =>
      rw [hd] at h
      simp only [Option.map_some, Option.some.injEq] at h
      have hk : domTail 2 (r.drop (nmLen r)) = some (r.drop (nmLen r)).length := by rw [hd]; simp; omega
      rw [domTail_more 2 _ q b hb hdot hk]
      simp; omega
  · rw [if_neg hg] at h; cases h

/-- What a domain takes up is a domain by itself. -/
theorem domTail_take (n : Nat) (r : List UInt8) (k : Nat) (h : domTail n r = some k) : domTail n (r.take k) = some k := by
  induction n generalizing r k with
  | zero => simp [domTail] at h ⊢; omega
  | succ n ih =>
    unfold domTail at h
    by_cases hh : r.head? = some 46
    · rw [if_pos hh] at h
      by_cases hg : nmGood r.tail = true
      · rw [if_pos hg] at h
        cases r with
        | nil => simp at hh
        | cons x r' =>
          simp only [List.tail_cons, List.head?_cons, Option.some.injEq] at h hh hg
          cases hd : domTail n (r'.drop (nmLen r')) with
          | none => rw [hd] at h; cases h
          | some m =>
            rw [hd] at h
            simp only [Option.map_some, Option.some.injEq] at h
            have hm := ih _ _ hd
            have hle := nmLen_le r'
            have hml := domTail_le _ _ _ hd
            simp at hml
            obtain ⟨j, rfl⟩ : ∃ j, k = j + 1 := ⟨k - 1, by omega⟩
            have hj : j = m + nmLen r' := by omega
            have e1 : nmLen (r'.take j) = nmLen r' := by
              have h3 : r'.take j = r'.take (nmLen r') ++ (r'.drop (nmLen r')).take m := by
                rw [hj, Nat.add_comm m, List.take_add]
              rw [h3, nmLen_append _ _ (take_nmLen r')]
              have h4 : nmLen ((r'.drop (nmLen r')).take m) = 0 := by
                rcases drop_nmLen r' with hd' | ⟨y, z, hd', hy⟩
                · rw [hd']; simp [nmLen]
                · rw [hd']; cases m <;> simp [nmLen, hy]
              rw [h4]; simp; omega
            unfold domTail
            simp only [List.take_succ_cons, List.head?_cons, List.tail_cons, hh, if_true]
            have hg' : nmGood (r'.take j) = true := by unfold nmGood at hg ⊢; rw [e1]; exact hg
            rw [if_pos hg', e1]
            have h5 : (r'.take j).drop (nmLen r') = (r'.drop (nmLen r')).take m := by
              rw [List.drop_take, hj, Nat.add_sub_cancel]
            rw [h5, hm]
            simp; omega
      · rw [if_neg hg] at h; cases h
    · rw [if_neg hh] at h
      simp only [Option.some.injEq] at h
      subst h
      simp [domTail]

theorem domLen_take (r : List UInt8) (k : Nat) (h : domLen r = some k) : domLen (r.take k) = some k := by
  unfold domLen at h
  by_cases hg : nmGood r = true
  · rw [if_pos hg] at h
    cases hd : domTail 2 (r.drop (nmLen r)) with
    | none => rw [hd] at h; cases h
    | some m =>
      rw [hd] at h
      simp only [Option.map_some, Option.some.injEq] at h
      have hm := domTail_take _ _ _ hd
      have hle := nmLen_le r
      have hml := domTail_le _ _ _ hd
      simp at hml
      have e1 : nmLen (r.take k) = nmLen r := by
        have h3 : r.take k = r.take (nmLen r) ++ (r.drop (nmLen r)).take m := by
          rw [← h, Nat.add_comm m, List.take_add]
        rw [h3, nmLen_append _ _ (take_nmLen r)]
        have h4 : nmLen ((r.drop (nmLen r)).take m) = 0 := by
          rcases drop_nmLen r with hd' | ⟨y, z, hd', hy⟩
          · rw [hd']; simp [nmLen]
          · rw [hd']; cases m <;> simp [nmLen, hy]
        rw [h4]; simp; omega
      unfold domLen
      have hg' : nmGood (r.take k) = true := by unfold nmGood at hg ⊢; rw [e1]; exact hg
      rw [if_pos hg', e1]
      have h5 : (r.take k).drop (nmLen r) = (r.drop (nmLen r)).take m := by
        rw [List.drop_take, ← h, Nat.add_sub_cancel]
      rw [h5, hm]
      simp; omega
  · rw [if_neg hg] at h; cases h

/-- An address with a sign behind it: by the cursor and by the parts. -/
theorem addr_text (m : List UInt8) : (match addr (m ++ [62]) with | some (u, d, n) => if (m ++ [(62 : UInt8)]).drop n = [62] then some (u, d) else none | none => none) = addrText m := by
  have hp := take_nmLen (m ++ [62])
  have hm : nmLen (m ++ [62]) = nmLen m := by
    rcases drop_nmLen m with hd | ⟨y, z, hd, hy⟩
    · have hr : m.take (nmLen m) = m := by have := List.take_append_drop (nmLen m) m; rw [hd] at this; simpa using this
      have hall := take_nmLen m
      rw [hr] at hall
      rw [nmLen_stop _ _ _ hall (by decide)]
      exact ((nmLen_all m).2 hall).symm
    · have hr : m = m.take (nmLen m) ++ y :: z := by have := List.take_append_drop (nmLen m) m; rw [hd] at this; exact this.symm
      have hle := nmLen_le m
      conv => lhs; rw [hr]
      rw [List.append_assoc, List.cons_append, nmLen_stop _ _ _ (take_nmLen m) hy]
      simp; omega
  have hle := nmLen_le m
  by_cases hat : nmGood m = true ∧ (m.drop (nmLen m)).head? = some 64
  · obtain ⟨hg, hh⟩ := hat
    obtain ⟨q, hq⟩ : ∃ q, m.drop (nmLen m) = 64 :: q := by
      cases hx : m.drop (nmLen m) with
      | nil => rw [hx] at hh; simp at hh
      | cons x q => rw [hx] at hh; simp at hh; exact ⟨q, by rw [hh]⟩
    have hmm : m = m.take (nmLen m) ++ 64 :: q := by have := List.take_append_drop (nmLen m) m; rw [hq] at this; exact this.symm
    have hu := take_nmLen m
    generalize hU : m.take (nmLen m) = U at *
    have hUl : U.length = nmLen m := by rw [← hU]; simp; omega
    have hname : isName U = true := by rw [← hU, isName_take]; exact hg
    have e1 : cutB 64 m = U :: cutB 64 q := by
      conv => lhs; rw [hmm]
      exact cutB_free _ _ _ (not_at hu)
    have e2 : addr (m ++ [62]) = match domLen (q ++ [62]) with
        | some d => if d ≤ 20 then some (U, (q ++ [62]).take d, nmLen m + 1 + d) else none
        | none => none := by
      unfold addr
      rw [hm, if_pos]
      · have h1 : (m ++ [62]).drop (nmLen m + 1) = q ++ [62] := by
          rw [← List.drop_drop, List.drop_append_of_le_length hle, hq]; simp
        have h2 : (m ++ [62]).take (nmLen m) = U := by rw [List.take_append_of_le_length hle, hU]
        rw [h1, h2]
      · refine ⟨?_, ?_⟩
        · unfold nmGood at hg ⊢; rw [hm]; exact hg
        · rw [List.drop_append_of_le_length hle, hq]; simp
    rw [e2]
    unfold addrText
    rw [e1]
    by_cases hd : isDomain q = true
    · have hd2 := hd
      rw [isDomain_iff] at hd2
      simp only [Bool.and_eq_true, decide_eq_true_eq] at hd2
      have h3 := domLen_more q [] 62 (by decide) (by decide) hd2.1
      rw [h3]
      have h4 : cutB 64 q = [q] := by
        refine cutB_none _ _ ?_
        intro hc
        have h5 := isDomain_def q
        rw [hd] at h5
        have h6 : (cutB 46 q).all isName = true := by
          have := h5.symm; simp only [Bool.and_eq_true] at this; exact this.1.1
        -- an at sign would stand in a part
        have key : ∀ (l : List UInt8), (64 : UInt8) ∈ l → ∃ p ∈ cutB 46 l, (64 : UInt8) ∈ p := by
          intro l
          induction l with
          | nil => intro h; simp at h
          | cons b r ih =>
            intro h
            unfold cutB
            by_cases hb : b = 46
            · rw [if_pos hb]
              have : (64 : UInt8) ∈ r := by
                rcases List.mem_cons.1 h with h | h
                · rw [hb] at h; exact absurd h (by decide)
                · exact h
              obtain ⟨p, hp, hp2⟩ := ih this
              exact ⟨p, by simp [hp], hp2⟩
            · rw [if_neg hb]
              cases hr : cutB 46 r with
              | nil => exact absurd hr (cutB_ne _ _)
              | cons x y =>
                rcases List.mem_cons.1 h with h | h
                · exact ⟨b :: x, by simp, by rw [← h]; simp⟩
                · obtain ⟨p, hp, hp2⟩ := ih h
                  rw [hr] at hp
                  rcases List.mem_cons.1 hp with hp | hp
                  · exact ⟨b :: x, by simp, by rw [hp] at hp2; simp [hp2]⟩
                  · exact ⟨p, by simp [hp], hp2⟩
        obtain ⟨p, hp, hp2⟩ := key q hc
        exact not_at (isName_all (List.all_eq_true.1 h6 p hp)) hp2
      rw [h4]
      simp only [hname, hd, Bool.and_self, if_true, hd2.2]
      have h7 : (m ++ [(62 : UInt8)]).drop (nmLen m + 1 + q.length) = [62] := by
        have h8 : m.length = nmLen m + 1 + q.length := by
          have := congrArg List.length hmm; simp at this; omega
        rw [← h8]; simp
      simp [h7]
    · have hR : (match U :: cutB 64 q with | [u, d] => if (isName u && isDomain d) = true then some (u, d) else none | _ => none) = (none : Option (List UInt8 × List UInt8)) := by
        split
        · rename_i u d heq
          simp only [List.cons.injEq] at heq
          have h9 : cutB 64 q = [d] := heq.2
          have h10 : d = q := by
            by_cases hc : (64 : UInt8) ∈ q
            · exfalso
              obtain ⟨p, r, hpr⟩ := List.append_of_mem hc
              -- cutB of a list with the sign has two parts at least
              have key : ∀ (l : List UInt8), (64 : UInt8) ∈ l → 2 ≤ (cutB 64 l).length := by
                intro l
                induction l with
                | nil => intro h; simp at h
                | cons b r ih =>
                  intro h
                  unfold cutB
                  by_cases hb : b = 64
                  · rw [if_pos hb]; have := cutB_pos 64 r; simp; omega
                  · rw [if_neg hb]
                    have : (64 : UInt8) ∈ r := by
                      rcases List.mem_cons.1 h with h | h
                      · exact absurd h.symm hb
                      · exact h
                    have := ih this
                    cases hr : cutB 64 r with
                    | nil => exact absurd hr (cutB_ne _ _)
                    | cons x y => rw [hr] at this; simpa using this
              have := key q hc
              rw [h9] at this; simp at this
            · rw [cutB_none _ _ hc] at h9; simpa using h9.symm
          rw [h10]
          simp [hd]
        · rfl
      rw [hR]
      cases hdl : domLen (q ++ [62]) with
      | none => rfl
      | some d =>
        simp only
        by_cases h20 : d ≤ 20
        · rw [if_pos h20]
          simp only
          rw [if_neg]
          intro h11
          have h8 : m.length = nmLen m + 1 + q.length := by
            have := congrArg List.length hmm; simp at this; omega
          have h12 : d = q.length := by
            have := congrArg List.length h11; simp at this; omega
          have h13 := domLen_take _ _ hdl
          rw [h12] at h13
          simp at h13
          apply hd
          rw [isDomain_iff, h13]; simp; omega
        · rw [if_neg h20]
  · have e2 : addr (m ++ [62]) = none := by
      unfold addr
      rw [hm, if_neg]
      rintro ⟨h1, h2⟩
      apply hat
      refine ⟨?_, ?_⟩
      · unfold nmGood at h1 ⊢; rw [hm] at h1; exact h1
      · rw [List.drop_append_of_le_length hle] at h2
        cases hx : m.drop (nmLen m) with
        | nil => rw [hx] at h2; simp at h2
        | cons x y => rw [hx] at h2; simpa using h2
    rw [e2]
    simp only
    unfold addrText
    split
    · rename_i u d heq
      rw [if_neg]
      intro h
      simp only [Bool.and_eq_true] at h
      apply hat
      -- m is u, the sign, d
      have key : ∀ (l u : List UInt8) (t : List (List UInt8)), cutB 64 l = u :: t → t ≠ [] → ∃ r, l = u ++ 64 :: r := by
        intro l
        induction l with
        | nil => intro u t h ht; simp [cutB] at h; exact absurd h.2 (fun e => ht e)
        | cons b r ih =>
          intro u t h ht
          unfold cutB at h
          by_cases hb : b = 64
          · rw [if_pos hb] at h; simp only [List.cons.injEq] at h; exact ⟨r, by rw [← h.1, hb]; rfl⟩
          · rw [if_neg hb] at h
            cases hr : cutB 64 r with
            | nil => exact absurd hr (cutB_ne _ _)
            | cons x y =>
              rw [hr] at h
              simp only [List.cons.injEq] at h
              obtain ⟨r', hr'⟩ := ih x y hr (by rw [h.2]; exact ht)
              exact ⟨r', by rw [← h.1, hr']; rfl⟩
      obtain ⟨r, hr⟩ := key m u [d] heq (by simp)
      have hall := isName_all h.1
      have h14 := nmLen_stop u 64 r hall (by decide)
      rw [← hr] at h14
      refine ⟨?_, ?_⟩
      · rw [hr]; exact nmGood_of h.1 64 r (by decide)
      · rw [h14, hr]; simp
    · rfl

theorem path_same (l : List UInt8) : pathOf l = pathText l := by
  unfold pathOf pathText
  by_cases h0 : l = [60, 62]
  · rw [if_pos h0, if_pos h0]
  rw [if_neg h0, if_neg h0]
  by_cases hh : l.head? = some 60
  · rw [if_pos hh]
    obtain ⟨r, rfl⟩ : ∃ r, l = 60 :: r := by
      cases l with
      | nil => simp at hh
      | cons x r => simp at hh; exact ⟨r, by rw [hh]⟩
    show (match addr r with | some (u, d, n) => if r.drop n = [(62 : UInt8)] then some (u, d) else none | none => none) =
      if r.length + 1 < 2 ∨ (some 60 : Option UInt8) ≠ some 60 ∨ (60 :: r).getLast? ≠ some 62 then none else addrText (r.take (r.length + 1 - 2))
    by_cases hlast : r ≠ [] ∧ r.getLast? = some 62
    · obtain ⟨hne, hl⟩ := hlast
      obtain ⟨m, rfl⟩ : ∃ m, r = m ++ [62] := by
        rw [List.getLast?_eq_some_iff] at hl; exact hl
      rw [if_neg (by rw [List.getLast?_cons]; simp)]
      have e1 : (m ++ [(62 : UInt8)]).take ((m ++ [(62 : UInt8)]).length + 1 - 2) = m := by simp
      rw [e1]
      exact addr_text m
    · have hR : r.length + 1 < 2 ∨ (some 60 : Option UInt8) ≠ some 60 ∨ (60 :: r).getLast? ≠ some 62 := by
        by_cases hr : r = []
        · left; rw [hr]; simp
        · right; right
          intro h; apply hlast
          refine ⟨hr, ?_⟩
          rw [List.getLast?_cons] at h
          rw [List.getLast?_eq_some_getLast hr] at h ⊢
          simpa using h
      rw [if_pos hR]
      cases ha : addr r with
      | none => rfl
      | some x =>
        obtain ⟨u, d, n⟩ := x
        show (if r.drop n = [(62 : UInt8)] then some (u, d) else none) = none
        rw [if_neg]
        intro hd
        apply hlast
        have h1 := List.take_append_drop n r
        rw [hd] at h1
        constructor
        · intro e; rw [e] at hd; simp at hd
        · rw [← h1]; simp
  · rw [if_neg hh, if_pos (by simp [hh])]
end Go.Proofs.YtoleonldkifcbaaGreatDoor
namespace Go.Proofs.YtoleonldkifcbaaGreatDoor
open Go

theorem blt_irrefl (a : List UInt8) : Op.bytesLess a a = false := by
  induction a with
  | nil => rfl
  | cons x r ih => simp [Op.bytesLess, ih]
theorem blt_tri (a b : List UInt8) : (Op.bytesLess a b || a == b) = !(Op.bytesLess b a) := by
  induction a generalizing b with
  | nil => cases b <;> simp [Op.bytesLess]
  | cons x r ih =>
    cases b with
    | nil => simp [Op.bytesLess]
    | cons y s =>
      have h := ih s
      simp only [Op.bytesLess]
      by_cases hxy : x = y
      · subst hxy
        simp only [beq_self_eq_true, Bool.true_and, UInt8.lt_irrefl, decide_false, Bool.false_or]
        rw [← h]; simp
      · have h1 : (x == y) = false := by simpa using hxy
        have h2 : (y == x) = false := by simpa using fun e => hxy e.symm
        have h3 : (x :: r == y :: s) = false := by simp [hxy]
        rw [h1, h2, h3]
        simp only [Bool.false_and, Bool.or_false]
        rw [Bool.eq_iff_iff]
        simp only [decide_eq_true_eq, Bool.not_eq_true', decide_eq_false_iff_not]
        constructor
        · intro h4 h5; exact absurd (UInt8.lt_trans h4 h5) (UInt8.lt_irrefl _)
        · intro h4
          rw [UInt8.lt_iff_toNat_lt] at h4 ⊢
          have h5 : x.toNat ≠ y.toNat := fun e => hxy (UInt8.toNat_inj.1 e)
          omega

structure Usr where
  name : List UInt8
  pass : List UInt8
  quota : Int

/-- "anyone" -/
def anyoneL : List UInt8 := [97, 110, 121, 111, 110, 101]

def usrOk (u : Usr) : Bool := (((isName u.name && !(u.name == anyoneL)) && isName u.pass) && decide (0 ≤ u.quota)) && decide (u.quota ≤ 200)

/-- Each name is behind the one before. -/
def ascOk : List UInt8 → List Usr → Bool
  | _, [] => true
  | p, u :: r => (usrOk u && Op.bytesLess p u.name) && ascOk u.name r
def usersOk (us : List Usr) : Bool := (decide (1 ≤ us.length) && decide (us.length ≤ 4)) && ascOk [] us

/-- The last one's name. -/
def lastN : List UInt8 → List Usr → List UInt8
  | p, [] => p
  | _, u :: r => lastN u.name r
theorem lastN_snoc (p : List UInt8) (a : List Usr) (u : Usr) : lastN p (a ++ [u]) = u.name := by
  induction a generalizing p with
  | nil => rfl
  | cons v s ih => exact ih _
theorem ascOk_append (p : List UInt8) (a b : List Usr) : ascOk p (a ++ b) = (ascOk p a && ascOk (lastN p a) b) := by
  induction a generalizing p with
  | nil => simp [ascOk, lastN]
  | cons u r ih => simp only [List.cons_append, ascOk, ih, lastN, Bool.and_assoc]
theorem ascOk_take {us : List Usr} {p : List UInt8} (k : Nat) (h : k < us.length) (hh : ascOk p (us.take k) = true) :
    ascOk p (us.take (k + 1)) = (usrOk us[k] && Op.bytesLess (lastN p (us.take k)) us[k].name) := by
  rw [List.take_succ_eq_append_getElem h, ascOk_append, hh]; simp [ascOk]
theorem ascOk_part {us : List Usr} {p : List UInt8} (k : Nat) (h : ascOk p (us.take k) = false) : ascOk p us = false := by
  have := ascOk_append p (us.take k) (us.drop k)
  rw [List.take_append_drop, h] at this; simpa using this

theorem lastN_take {us : List Usr} (k : Nat) (h0 : 0 < k) (h : k - 1 < us.length) : lastN [] (us.take k) = us[k - 1].name := by
  obtain ⟨m, rfl⟩ : ∃ m, k = m + 1 := ⟨k - 1, by omega⟩
  rw [List.take_succ_eq_append_getElem (by simpa using h), lastN_snoc]; rfl

/-- The place of a user, or none. -/
def usrAt (us : List Usr) (n : List UInt8) : Option Nat := us.findIdx? (·.name == n)
def usrFind (us : List Usr) (n : List UInt8) : Option Usr := us.find? (·.name == n)
def usrProve (us : List Usr) (n p : List UInt8) : Bool := usersOk us && (match usrFind us n with | some u => u.pass == p | none => false)
end Go.Proofs.YtoleonldkifcbaaGreatDoor
namespace Go.Proofs.YtoleonldkifcbaaGreatDoor
open Go

/-- Is a name among names? -/
def hasN (l : List (List UInt8)) (x : List UInt8) : Bool := l.contains x
theorem hasN_iff (l : List (List UInt8)) (x : List UInt8) : hasN l x = true ↔ x ∈ l := by unfold hasN; rw [List.contains_iff_mem]
theorem hasN_snoc {l : List (List UInt8)} {k : Nat} (hk : k < l.length) {x : List UInt8} (h : hasN (l.take k) x = false) (hx : l[k] ≠ x) : hasN (l.take (k + 1)) x = false := by
  rw [← Bool.not_eq_true, hasN_iff] at h ⊢
  rw [List.take_succ_eq_append_getElem hk, List.mem_append, List.mem_singleton]
  rintro (h1 | h1)
  · exact h h1
  · exact hx h1.symm

/-- Names, each none of those ahead of it. -/
def nmsOk : List (List UInt8) → List (List UInt8) → Bool
  | _, [] => true
  | s, x :: r => (isName x && !(hasN s x)) && nmsOk (s ++ [x]) r
theorem nmsOk_append (s a b : List (List UInt8)) : nmsOk s (a ++ b) = (nmsOk s a && nmsOk (s ++ a) b) := by
  induction a generalizing s with
  | nil => simp [nmsOk]
  | cons x r ih => simp only [List.cons_append, nmsOk, ih, Bool.and_assoc, List.append_assoc, List.nil_append]
theorem nmsOk_take {l : List (List UInt8)} (k : Nat) (h : k < l.length) (hh : nmsOk [] (l.take k) = true) :
    nmsOk [] (l.take (k + 1)) = (isName l[k] && !(hasN (l.take k) l[k])) := by
  rw [List.take_succ_eq_append_getElem h, nmsOk_append, hh]; simp [nmsOk]
theorem nmsOk_part {l : List (List UInt8)} (k : Nat) (h : nmsOk [] (l.take k) = false) : nmsOk [] l = false := by
  have := nmsOk_append [] (l.take k) (l.drop k)
  rw [List.take_append_drop, h] at this; simpa using this

theorem contains_bs (l : List (List UInt8)) (x : ByteArray) : Lib.containsS (l.map bs) x = hasN l x.data.toList := by
  rw [Bool.eq_iff_iff, Lib.containsS_iff, hasN_iff]
  simp only [List.mem_map]
  constructor
  · rintro ⟨a, ha, rfl⟩; simpa using ha
  · intro h; exact ⟨_, h, bs_of x⟩

/-- Receivers of a letter. -/
def rcvOk (l : List (List UInt8)) : Bool := (decide (1 ≤ l.length) && decide (l.length ≤ 3)) && nmsOk [] l
/-- Different names. -/
def difOk (l : List (List UInt8)) : Bool := nmsOk [] l && decide (l.length ≤ 3)

structure Sb where
  stage : Int
  user : List UInt8
  to : List (List UInt8)
  text : List UInt8

/-- A valid submission, stage by stage. -/
def subOk (s : Sb) : Bool :=
  if s.stage = 0 ∨ s.stage = 1 ∨ s.stage = 6 then (decide (s.user = []) && decide (s.to = [])) && decide (s.text = [])
  else if s.stage = 2 ∨ s.stage = 3 then (isName s.user && decide (s.to = [])) && decide (s.text = [])
  else if s.stage = 4 then (isName s.user && rcvOk s.to) && decide (s.text = [])
  else if s.stage = 5 then (isName s.user && rcvOk s.to) && decide (s.text.length ≤ 21)
  else false

/-- The same, as the reference says it. -/
def subOk2 (s : Sb) : Bool :=
  if !(decide (0 ≤ s.stage) && decide (s.stage ≤ 6)) || !difOk s.to || decide (21 < s.text.length) then false
  else if ((decide (2 ≤ s.stage) && decide (s.stage ≤ 5)) != isName s.user) || (!(decide (2 ≤ s.stage) && decide (s.stage ≤ 5)) && !decide (s.user = [])) then false
  else if (decide (s.stage = 4) || decide (s.stage = 5)) != decide (0 < s.to.length) then false
  else decide (s.stage = 5) || decide (s.text = [])

theorem isName_nil : isName [] = false := by decide
theorem nmsOk_nil : nmsOk [] [] = true := rfl

theorem subOk_same (s : Sb) : subOk2 s = subOk s := by
  have h1 := isName_nil
  by_cases hs : 0 ≤ s.stage ∧ s.stage ≤ 6
  · obtain ⟨ha, hb⟩ := hs
    have : s.stage = 0 ∨ s.stage = 1 ∨ s.stage = 2 ∨ s.stage = 3 ∨ s.stage = 4 ∨ s.stage = 5 ∨ s.stage = 6 := by omega
    rcases this with h | h | h | h | h | h | h <;> simp only [subOk, subOk2, h, difOk, rcvOk]
    all_goals
      rcases s with ⟨st, user, to, text⟩
      cases user <;> cases to <;> cases text <;> simp_all [nmsOk_nil, isName_nil]
    all_goals
      rw [Bool.eq_iff_iff]
      simp only [Bool.and_eq_true, Bool.not_eq_true', decide_eq_true_eq, decide_eq_false_iff_not]
      grind
  · have hn : ¬ (s.stage = 0 ∨ s.stage = 1 ∨ s.stage = 6) := by omega
    have hn2 : ¬ (s.stage = 2 ∨ s.stage = 3) := by omega
    have hn3 : ¬ s.stage = 4 := by omega
    have hn4 : ¬ s.stage = 5 := by omega
    unfold subOk subOk2
    rw [if_neg hn, if_neg hn2, if_neg hn3, if_neg hn4, if_pos]
    have : (decide (0 ≤ s.stage) && decide (s.stage ≤ 6)) = false := by
      rw [← Bool.not_eq_true]; simp; omega
    rw [this]; rfl
end Go.Proofs.YtoleonldkifcbaaGreatDoor
namespace Go.Proofs.YtoleonldkifcbaaGreatDoor
open Go

/-- The sign of a number of six bits. -/
def sgn (n : Nat) : UInt8 :=
  if n < 26 then UInt8.ofNat (65 + n) else if n < 52 then UInt8.ofNat (71 + n) else if n < 62 then UInt8.ofNat (n - 4) else if n = 62 then 43 else 47
/-- The number of a sign. -/
def sgv (b : UInt8) : Option Nat :=
  if 65 ≤ b.toNat ∧ b.toNat ≤ 90 then some (b.toNat - 65) else if 97 ≤ b.toNat ∧ b.toNat ≤ 122 then some (b.toNat - 71)
  else if 48 ≤ b.toNat ∧ b.toNat ≤ 57 then some (b.toNat + 4) else if b.toNat = 43 then some 62 else if b.toNat = 47 then some 63 else none
theorem sgv_sgn (n : Nat) (h : n < 64) : sgv (sgn n) = some n := by
  revert n; decide
theorem sgv_pad : sgv 61 = none := by decide
theorem sgv_lt {b : UInt8} {n : Nat} (h : sgv b = some n) : n < 64 := by
  unfold sgv at h; repeat' split at h
  all_goals first | (injection h with h; omega) | cases h

/-- Four signs for a group. -/
def four : List UInt8 → List UInt8
  | [] => []
  | [a] => [sgn (a.toNat / 4), sgn (a.toNat * 16 % 64), 61, 61]
  | [a, b] => [sgn (a.toNat / 4), sgn ((a.toNat * 16 + b.toNat / 16) % 64), sgn (b.toNat * 4 % 64), 61]
  | a :: b :: c :: _ => [sgn (a.toNat / 4), sgn ((a.toNat * 16 + b.toNat / 16) % 64), sgn ((b.toNat * 4 + c.toNat / 64) % 64), sgn (c.toNat % 64)]
/-- Groups of so many. -/
def grp (n : Nat) (l : List UInt8) : List (List UInt8) :=
  if _h : l = [] ∨ n = 0 then [] else l.take n :: grp n (l.drop n)
termination_by l.length
decreasing_by
  have : 0 < l.length := List.length_pos_iff.mpr (fun e => _h (.inl e))
  have : n ≠ 0 := fun e => _h (.inr e)
  simp; omega
theorem grp_nil (n : Nat) : grp n [] = [] := by unfold grp; simp
theorem grp_cons (n : Nat) (l : List UInt8) (hl : l ≠ []) (hn : n ≠ 0) : grp n l = l.take n :: grp n (l.drop n) := by
  rw [grp]; simp [hl, hn]

def enc (l : List UInt8) : List UInt8 := (grp 3 l).flatMap four
theorem enc_nil : enc [] = [] := by unfold enc; rw [grp_nil]; rfl
theorem enc_cons (l : List UInt8) (hl : l ≠ []) : enc l = four (l.take 3) ++ enc (l.drop 3) := by unfold enc; rw [grp_cons 3 l hl (by simp)]; rfl
theorem four_len (g : List UInt8) (h : g ≠ []) : (four g).length = 4 := by
  match g with
  | [] => exact absurd rfl h
  | [_] => rfl
  | [_, _] => rfl
  | _ :: _ :: _ :: _ => rfl

/-- The signs at the head: their number. -/
def sgns : List UInt8 → Nat
  | [] => 0
  | b :: r => if (sgv b).isSome then sgns r + 1 else 0
/-- The number that signs make. -/
def sgnN : Nat → List UInt8 → Nat
  | n, [] => n
  | n, b :: r => sgnN (n * 64 + (sgv b).getD 0) r
def three (n : Nat) : List UInt8 := [UInt8.ofNat (n / 65536), UInt8.ofNat (n / 256), UInt8.ofNat n]
/-- What the signs at a group's head suffice for. -/
def rdG (g : List UInt8) : List UInt8 := (three (sgnN 0 (g.take (sgns g)) * 64 ^ (4 - sgns g))).take (sgns g * 6 / 8)
def rdI (t : List UInt8) : List UInt8 := (grp 4 t).flatMap rdG
theorem rdI_cons (t : List UInt8) (ht : t ≠ []) : rdI t = rdG (t.take 4) ++ rdI (t.drop 4) := by unfold rdI; rw [grp_cons 4 t ht (by simp)]; rfl

theorem ofNat_toNat' (a : UInt8) (n : Nat) (h : n % 256 = a.toNat) : UInt8.ofNat n = a := by
  apply UInt8.toNat.inj; simp; exact h

theorem rdG_four (g : List UInt8) (h0 : g ≠ []) (h : g.length ≤ 3) : rdG (four g) = g := by
  match g, h with
  | [], _ => exact absurd rfl h0
  | [a], _ =>
    have ha := a.toNat_lt
    have e1 := sgv_sgn (a.toNat / 4) (by omega)
    have e2 := sgv_sgn (a.toNat * 16 % 64) (by omega)
    simp only [rdG, four, sgns, e1, e2, sgv_pad, Option.isSome_some, Option.isSome_none, if_true, Bool.false_eq_true, if_false, List.take, sgnN, Option.getD_some, three, Nat.reduceAdd, Nat.reduceMul, Nat.reduceDiv, Nat.reduceSub, Nat.reducePow]
    rw [ofNat_toNat' a _ (by omega)]
  | [a, b], _ =>
    have ha := a.toNat_lt
    have hb := b.toNat_lt
    have e1 := sgv_sgn (a.toNat / 4) (by omega)
    have e2 := sgv_sgn ((a.toNat * 16 + b.toNat / 16) % 64) (by omega)
    have e3 := sgv_sgn (b.toNat * 4 % 64) (by omega)
    simp only [rdG, four, sgns, e1, e2, e3, sgv_pad, Option.isSome_some, Option.isSome_none, if_true, Bool.false_eq_true, if_false, List.take, sgnN, Option.getD_some, three, Nat.reduceAdd, Nat.reduceMul, Nat.reduceDiv, Nat.reduceSub, Nat.reducePow]
    rw [ofNat_toNat' a _ (by omega), ofNat_toNat' b _ (by omega)]
  | [a, b, c], _ =>
    have ha := a.toNat_lt
    have hb := b.toNat_lt
    have hc := c.toNat_lt
    have e1 := sgv_sgn (a.toNat / 4) (by omega)
    have e2 := sgv_sgn ((a.toNat * 16 + b.toNat / 16) % 64) (by omega)
    have e3 := sgv_sgn ((b.toNat * 4 + c.toNat / 64) % 64) (by omega)
    have e4 := sgv_sgn (c.toNat % 64) (by omega)
    simp only [rdG, four, sgns, e1, e2, e3, e4, Option.isSome_some, if_true, List.take, sgnN, Option.getD_some, three, Nat.reduceAdd, Nat.reduceMul, Nat.reduceDiv, Nat.reduceSub, Nat.reducePow]
    rw [ofNat_toNat' a _ (by omega), ofNat_toNat' b _ (by omega), ofNat_toNat' c _ (by omega)]
  | a :: b :: c :: d :: r, h => simp at h

theorem take3_ne {l : List UInt8} (hl : l ≠ []) : l.take 3 ≠ [] := by
  cases l with
  | nil => exact absurd rfl hl
  | cons a r => simp
theorem rdI_enc (l : List UInt8) : rdI (enc l) = l := by
  induction hn : l.length using Nat.strongRecOn generalizing l with
  | _ n ih =>
    by_cases hl : l = []
    · subst hl; rw [enc_nil]; unfold rdI; rw [grp_nil]; rfl
    · have h0 : 0 < l.length := List.length_pos_iff.mpr hl
      have ht := take3_ne hl
      have h4 := four_len _ ht
      rw [enc_cons l hl, rdI_cons _ (by intro e; have := congrArg List.length e; simp [h4] at this),
        List.take_append_of_le_length (by omega), List.drop_append_of_le_length (by omega), List.take_of_length_le (by omega), List.drop_of_length_le (by omega),
        rdG_four _ ht (by simp; omega)]
      simp only [List.nil_append]
      rw [ih (l.drop 3).length (by simp; omega) _ rfl, List.take_append_drop]

theorem enc_inj {a b : List UInt8} (h : enc a = enc b) : a = b := by rw [← rdI_enc a, h, rdI_enc]

theorem enc_len (l : List UInt8) : (enc l).length = (l.length + 2) / 3 * 4 := by
  induction hn : l.length using Nat.strongRecOn generalizing l with
  | _ n ih =>
    by_cases hl : l = []
    · subst hl; simp at hn; subst hn; rw [enc_nil]; rfl
    · have h0 : 0 < l.length := List.length_pos_iff.mpr hl
      have ht := take3_ne hl
      rw [enc_cons l hl, List.length_append, four_len _ ht, ih (l.drop 3).length (by simp; omega) _ rfl]
      simp; omega

/-- The bytes of which a text is the base64, if there are such, and not too many. -/
def dec (t : List UInt8) : Option (List UInt8) :=
  if enc (rdI t) = t ∧ (rdI t).length ≤ 30 then some (rdI t) else none
theorem dec_iff {s t : List UInt8} : dec t = some s ↔ enc s = t ∧ s.length ≤ 30 := by
  unfold dec
  constructor
  · intro h
    split at h
    · next hx => injection h with h; subst h; exact hx
    · cases h
  · rintro ⟨h1, h2⟩
    subst h1
    rw [rdI_enc, if_pos ⟨rfl, h2⟩]
theorem dec_some {s t : List UInt8} (h : enc s = t) (hl : s.length ≤ 30) : dec t = some s := dec_iff.mpr ⟨h, hl⟩
theorem dec_none {t : List UInt8} (h : ∀ s, enc s = t → s.length ≤ 30 → False) : dec t = none := by
  cases hd : dec t with
  | none => rfl
  | some s => exact absurd (dec_iff.mp hd) fun ⟨h1, h2⟩ => h s h1 h2

end Go.Proofs.YtoleonldkifcbaaGreatDoor
namespace Go.Proofs.YtoleonldkifcbaaGreatDoor
open Go

/-- The reference's decoding: whole groups of four, all three bytes of each. -/
def decF : List UInt8 → List UInt8
  | a :: b :: c :: d :: r => three (sgnN 0 [a, b, c, d]) ++ decF r
  | _ => []
theorem decF_cons (t : List UInt8) (h : 4 ≤ t.length) : decF t = three (sgnN 0 (t.take 4)) ++ decF (t.drop 4) := by
  match t, h with
  | a :: b :: c :: d :: r, _ => rfl
theorem decF_short (t : List UInt8) (h : t.length < 4) : decF t = [] := by
  unfold decF
  split
  · simp at h; omega
  · rfl
theorem decF_four (g : List UInt8) (h0 : g ≠ []) (h : g.length ≤ 3) : three (sgnN 0 (four g)) = g ++ List.replicate (3 - g.length) 0 := by
  match g, h with
  | [], _ => exact absurd rfl h0
  | [a], _ =>
    have ha := a.toNat_lt
    have e1 := sgv_sgn (a.toNat / 4) (by omega)
    have e2 := sgv_sgn (a.toNat * 16 % 64) (by omega)
    simp only [four, sgnN, e1, e2, sgv_pad, Option.getD_some, Option.getD_none, three]
    rw [ofNat_toNat' a _ (by omega), ofNat_toNat' 0 _ (by simp; omega), ofNat_toNat' 0 _ (by simp; omega)]; rfl
  | [a, b], _ =>
    have ha := a.toNat_lt
    have hb := b.toNat_lt
    have e1 := sgv_sgn (a.toNat / 4) (by omega)
    have e2 := sgv_sgn ((a.toNat * 16 + b.toNat / 16) % 64) (by omega)
    have e3 := sgv_sgn (b.toNat * 4 % 64) (by omega)
    simp only [four, sgnN, e1, e2, e3, sgv_pad, Option.getD_some, Option.getD_none, three]
    rw [ofNat_toNat' a _ (by omega), ofNat_toNat' b _ (by omega), ofNat_toNat' 0 _ (by simp; omega)]; rfl
  | [a, b, c], _ =>
    have ha := a.toNat_lt
    have hb := b.toNat_lt
    have hc := c.toNat_lt
    have e1 := sgv_sgn (a.toNat / 4) (by omega)
    have e2 := sgv_sgn ((a.toNat * 16 + b.toNat / 16) % 64) (by omega)
    have e3 := sgv_sgn ((b.toNat * 4 + c.toNat / 64) % 64) (by omega)
    have e4 := sgv_sgn (c.toNat % 64) (by omega)
    simp only [four, sgnN, e1, e2, e3, e4, Option.getD_some, three]
    rw [ofNat_toNat' a _ (by omega), ofNat_toNat' b _ (by omega), ofNat_toNat' c _ (by omega)]; rfl
  | a :: b :: c :: d :: r, h => simp at h
theorem decF_enc (l : List UInt8) : ∃ z, z ≤ 2 ∧ decF (enc l) = l ++ List.replicate z 0 := by
  induction hn : l.length using Nat.strongRecOn generalizing l with
  | _ n ih =>
    by_cases hl : l = []
    · subst hl; exact ⟨0, by omega, by rw [enc_nil, decF_short _ (by simp)]; rfl⟩
    · have h0 : 0 < l.length := List.length_pos_iff.mpr hl
      have ht := take3_ne hl
      have h4 := four_len _ ht
      obtain ⟨z, hz, e⟩ := ih (l.drop 3).length (by simp; omega) _ rfl
      rw [enc_cons l hl, decF_cons _ (by simp; omega), List.take_append_of_le_length (by omega), List.drop_append_of_le_length (by omega), List.take_of_length_le (by omega), List.drop_of_length_le (by omega),
        decF_four _ ht (by simp; omega), List.nil_append]
      by_cases h3 : 3 ≤ l.length
      · refine ⟨z, hz, ?_⟩
        have : (l.take 3).length = 3 := by simp; omega
        rw [e, this]
        simp only [Nat.sub_self, List.replicate_zero, List.append_nil]
        rw [← List.append_assoc, List.take_append_drop]
      · refine ⟨3 - l.length, by omega, ?_⟩
        have e1 : l.drop 3 = [] := List.drop_of_length_le (by omega)
        have e2 : l.take 3 = l := List.take_of_length_le (by omega)
        rw [e1, e2, enc_nil, decF_short _ (by simp)]; simp

/-- The reference's search has found nothing. -/
theorem dec_miss {t : List UInt8} (h : ∀ k, k ≤ 2 → k ≤ (decF t).length → enc ((decF t).take ((decF t).length - k)) ≠ t) : dec t = none := by
  refine dec_none fun s h1 _ => ?_
  obtain ⟨z, hz, e⟩ := decF_enc s
  rw [h1] at e
  refine h z hz (by rw [e]; simp) ?_
  rw [e]; simp [h1]
theorem dec_hit {t s : List UInt8} (h : enc s = t) (hl : t.length ≤ 40) : dec t = some s := by
  refine dec_some h ?_
  have := enc_len s; rw [h] at this; omega
theorem dec_long {t : List UInt8} (h : 40 < t.length ∨ t.length % 4 ≠ 0) : dec t = none := by
  refine dec_none fun s h1 h2 => ?_
  have := enc_len s; rw [h1] at this; omega

/-- The user and the password of plain bytes. -/
def parseP (s : List UInt8) : Option (List UInt8 × List UInt8) := match cutB 0 s with
  | [e, u, p] => if e = [] ∧ isName u = true ∧ isName p = true then some (u, p) else none
  | _ => none
def plainP (t : List UInt8) : Option (List UInt8 × List UInt8) := (dec t).bind parseP
def plainU (us : List Usr) (t : List UInt8) : Option (List UInt8) := (plainP t).bind fun x => if usrProve us x.1 x.2 = true then some x.1 else none

def backP (s : Sb) : Sb := if 2 ≤ s.stage then ⟨2, s.user, [], []⟩ else ⟨s.stage, [], [], []⟩
def trimP : List UInt8 → List UInt8
  | [] => []
  | b :: r => if b = 46 then r else b :: r
def dataP (s : Sb) (l : List UInt8) : Sb × Int :=
  if l = [46] then (backP s, if 20 < s.text.length then 552 else 250) else (⟨s.stage, s.user, s.to, (s.text ++ trimP l ++ [10]).take 21⟩, 0)
def helloP (s : Sb) (ws : List (List UInt8)) : Sb × Int :=
  if ws.length = 2 ∧ isDomain (ws.getD 1 []) = true then (backP ⟨if s.stage = 0 then 1 else s.stage, s.user, s.to, s.text⟩, 250) else (s, 501)
def plainW : List UInt8 := [80, 76, 65, 73, 78]
def authP (s : Sb) (us : List Usr) (ws : List (List UInt8)) : Sb × Int :=
  if s.stage ≠ 1 then (s, 503) else if ¬ (ws.length = 3 ∧ ws.getD 1 [] = plainW) then (s, 501)
  else match plainU us (ws.getD 2 []) with | none => (s, 535) | some n => (⟨2, n, [], []⟩, 235)
/-- The address behind a beginning of a line. -/
def pathP (beg line : List UInt8) : Option (List UInt8 × List UInt8) :=
  if line.take beg.length = beg then (pathOf (line.drop beg.length)).bind fun x => if x.1 = [] then none else some x else none
def mailW : List UInt8 := [77, 65, 73, 76, 32, 70, 82, 79, 77, 58]
def toW : List UInt8 := [82, 67, 80, 84, 32, 84, 79, 58]
def mailP (s : Sb) (dom line : List UInt8) : Sb × Int :=
  if s.stage < 2 then (s, 530) else if s.stage ≠ 2 then (s, 503) else match pathP mailW line with
    | none => (s, 501)
    | some (u, d) => if u = s.user ∧ d = dom then (⟨3, s.user, s.to, s.text⟩, 250) else (s, 550)
def toP (s : Sb) (us : List Usr) (dom line : List UInt8) : Sb × Int :=
  if s.stage ≠ 3 ∧ s.stage ≠ 4 then (s, 503) else match pathP toW line with
    | none => (s, 501)
    | some (u, d) => if (usrFind us u).isSome = true ∧ d = dom then
        (if hasN s.to u = true then (s, 250) else if 3 ≤ s.to.length then (s, 452) else (⟨4, s.user, s.to ++ [u], s.text⟩, 250)) else (s, 550)
def restP (s : Sb) (line : List UInt8) : Sb × Int :=
  if line = [68, 65, 84, 65] then (if s.stage ≠ 4 then (s, 503) else (⟨5, s.user, s.to, s.text⟩, 354))
  else if line = [82, 83, 69, 84] then (backP s, 250)
  else if line = [78, 79, 79, 80] then (s, 250)
  else if line = [81, 85, 73, 84] then (⟨6, [], [], []⟩, 221)
  else (s, 500)
def lineP (s : Sb) (us : List Usr) (dom line : List UInt8) : Sb × Int :=
  if s.stage = 6 then (s, 503) else if s.stage = 5 then dataP s line
  else if (cutB 32 line).getD 0 [] = [69, 72, 76, 79] then helloP s (cutB 32 line)
  else if (cutB 32 line).getD 0 [] = [65, 85, 84, 72] then authP s us (cutB 32 line)
  else if (cutB 32 line).getD 0 [] = [77, 65, 73, 76] then mailP s dom line
  else if (cutB 32 line).getD 0 [] = [82, 67, 80, 84] then toP s us dom line
  else restP s line
/-- What a line does: and nothing, where an argument is not valid. -/
def subLineP (s : Sb) (us : List Usr) (dom line : List UInt8) : Sb × Int :=
  if subOk s = true ∧ usersOk us = true ∧ isDomain dom = true then lineP s us dom line else (⟨0, [], [], []⟩, -1)

/-- What of validity the lines lean on. -/
theorem subOk_use {s : Sb} (h : subOk s = true) : 0 ≤ s.stage ∧ s.stage ≤ 6 ∧ (s.stage < 2 → s.user = []) ∧ (s.stage ≠ 5 → s.text = []) ∧ (s.stage ≠ 4 → s.stage ≠ 5 → s.to = []) ∧ s.user.length ≤ 8 ∧ s.to.length ≤ 3 ∧ s.text.length ≤ 21 := by
  obtain ⟨st, u, t, x⟩ := s
  unfold subOk at h
  dsimp only at h ⊢
  split at h
  · next h1 =>
    simp at h
    obtain ⟨⟨rfl, rfl⟩, rfl⟩ := h
    simp; omega
  · next h1 =>
    split at h
    · next h2 =>
      simp at h
      obtain ⟨⟨hn, rfl⟩, rfl⟩ := h
      have := isName_len hn
      simp; omega
    · next h2 =>
      split at h
      · next h3 =>
        simp [rcvOk] at h
        obtain ⟨⟨hn, ⟨ht, hk⟩⟩, rfl⟩ := h
        have := isName_len hn
        simp; omega
      · next h3 =>
        split at h
        · next h4 =>
          simp [rcvOk] at h
          obtain ⟨⟨hn, ⟨ht, hk⟩⟩, hx⟩ := h
          have := isName_len hn
          refine ⟨by omega, by omega, fun _ => by omega, fun e => absurd h4 e, fun _ e => absurd h4 e, by omega, by omega, by omega⟩
        · cases h

end Go.Proofs.YtoleonldkifcbaaGreatDoor
namespace Go.Proofs.YtoleonldkifcbaaGreatDoor
open Go

/-- The signs, all of them. -/
def sgnS : ByteArray := ⟨#[65, 66, 67, 68, 69, 70, 71, 72, 73, 74, 75, 76, 77, 78, 79, 80, 81, 82, 83, 84, 85, 86, 87, 88, 89, 90, 97, 98, 99, 100, 101, 102, 103, 104, 105, 106, 107, 108, 109, 110, 111, 112, 113, 114, 115, 116, 117, 118, 119, 120, 121, 122, 48, 49, 50, 51, 52, 53, 54, 55, 56, 57, 43, 47]⟩
theorem sgnS_size : sgnS.size = 64 := by decide
theorem sgnS_list : sgnS.data.toList = (List.range 64).map sgn := by decide
theorem sgnS_get (n : Nat) (h : n < sgnS.size) : sgnS[n] = sgn n := by
  have h1 : sgnS[n] = sgnS.data.toList[n]'(by simpa using h) := rfl
  rw [h1]
  simp [sgnS_list]

/-- The bytes of a group, behind each other. -/
def b3 (g : List UInt8) : Nat → Nat
  | 0 => 0
  | i + 1 => b3 g i * 256 + (g.getD i 0).toNat
theorem b3_le (g : List UInt8) (i : Nat) : b3 g i < 256 ^ i := by
  induction i with
  | zero => simp [b3]
  | succ i ih => unfold b3; have := (g.getD i 0).toNat_lt; rw [Nat.pow_succ]; omega
theorem b3_bd (g : List UInt8) (i : Nat) (h : i ≤ 3) : b3 g i < 16777216 := by
  have h1 := b3_le g i
  have h2 : 256 ^ i ≤ 256 ^ 3 := Nat.pow_le_pow_right (by omega) h
  omega
/-- Sign number i of a group. -/
def sg4 (g : List UInt8) (i : Nat) : UInt8 := if g.length < i then 61 else sgn (b3 g 3 / 2 ^ (18 - 6 * i) % 64)
theorem four_eq (g : List UInt8) (h0 : g ≠ []) (h : g.length ≤ 3) : four g = (List.range 4).map (sg4 g) := by
  match g, h with
  | [], _ => exact absurd rfl h0
  | [a], _ =>
    have ha := a.toNat_lt
    simp only [four, List.range, List.range.loop, List.map_cons, List.map_nil, sg4, b3, List.length_cons, List.length_nil, List.getD_cons_zero, List.getD_cons_succ, List.getD_nil]
    simp
    refine ⟨?_, ?_⟩ <;> (congr 1; omega)
  | [a, b], _ =>
    have ha := a.toNat_lt
    have hb := b.toNat_lt
    simp only [four, List.range, List.range.loop, List.map_cons, List.map_nil, sg4, b3, List.length_cons, List.length_nil, List.getD_cons_zero, List.getD_cons_succ, List.getD_nil]
    simp
    refine ⟨?_, ?_, ?_⟩ <;> (congr 1; omega)
  | [a, b, c], _ =>
    have ha := a.toNat_lt
    have hb := b.toNat_lt
    have hc := c.toNat_lt
    simp only [four, List.range, List.range.loop, List.map_cons, List.map_nil, sg4, b3, List.length_cons, List.length_nil, List.getD_cons_zero, List.getD_cons_succ]
    simp
    refine ⟨?_, ?_, ?_, ?_⟩ <;> (congr 1; omega)
  | a :: b :: c :: d :: r, h => simp at h
theorem four_step (g : List UInt8) (i : Nat) : (List.range (i + 1)).map (sg4 g) = (List.range i).map (sg4 g) ++ [sg4 g i] := by
  rw [List.range_succ]; simp

theorem grp_mem (n : Nat) (l : List UInt8) (hn : n ≠ 0) : ∀ g ∈ grp n l, g ≠ [] ∧ g.length ≤ n := by
  induction hl : l.length using Nat.strongRecOn generalizing l with
  | _ m ih =>
    by_cases h : l = []
    · subst h; rw [grp_nil]; simp
    · have h0 : 0 < l.length := List.length_pos_iff.mpr h
      have hlt : (l.drop n).length < m := by rw [List.length_drop]; omega
      rw [grp_cons n l h hn]
      intro g hg
      rcases List.mem_cons.1 hg with rfl | hg
      · refine ⟨?_, by simp; omega⟩
        intro e; have := congrArg List.length e; rw [List.length_take, List.length_nil] at this; omega
      · exact ih _ hlt _ rfl g hg
theorem grp_len (n : Nat) (l : List UInt8) (hn : n ≠ 0) : (grp n l).length ≤ l.length := by
  induction hl : l.length using Nat.strongRecOn generalizing l with
  | _ m ih =>
    by_cases h : l = []
    · subst h; rw [grp_nil]; simp
    · have h0 : 0 < l.length := List.length_pos_iff.mpr h
      have hlt : (l.drop n).length < m := by rw [List.length_drop]; omega
      rw [grp_cons n l h hn]
      have h1 := ih _ hlt _ rfl
      rw [List.length_drop] at h1
      rw [List.length_cons]; omega
/-- The groups that stand ahead of place k, where k is a group's beginning. -/
theorem grp_at (n : Nat) (l : List UInt8) (k : Nat) (hn : n ≠ 0) (hk : k < l.length) : grp n (l.drop k) = (l.drop k).take n :: grp n (l.drop (k + n)) := by
  rw [grp_cons n (l.drop k) (by intro e; have := congrArg List.length e; simp at this; omega) hn, List.drop_drop]

/-- What a sign stands for: or -1. -/
def sgI (b : UInt8) : Int := match sgv b with | some n => (n : Int) | none => -1
theorem sgI_none {b : UInt8} (h : sgv b = none) : sgI b = -1 := by unfold sgI; rw [h]
theorem sgI_some {b : UInt8} {n : Nat} (h : sgv b = some n) : sgI b = n := by unfold sgI; rw [h]
theorem sgns_le (g : List UInt8) : sgns g ≤ g.length := by
  induction g with
  | nil => simp [sgns]
  | cons b r ih => unfold sgns; split <;> simp <;> omega
theorem sgns_get (g : List UInt8) (k : Nat) (h : k < sgns g) : ∃ h' : k < g.length, ∃ n, sgv g[k] = some n := by
  induction g generalizing k with
  | nil => simp [sgns] at h
  | cons b r ih =>
    unfold sgns at h
    split at h
    · next hb =>
      cases k with
      | zero => exact ⟨by simp, Option.isSome_iff_exists.1 hb⟩
      | succ k => obtain ⟨h1, h2⟩ := ih k (by omega); exact ⟨by simp; omega, by simpa using h2⟩
    · omega
theorem sgns_stop (g : List UInt8) (h : sgns g < g.length) : sgv (g[sgns g]) = none := by
  induction g with
  | nil => simp at h
  | cons b r ih =>
    cases hb : sgv b with
    | none =>
      have : sgns (b :: r) = 0 := by unfold sgns; rw [hb]; rfl
      simp only [this]; simpa using hb
    | some n =>
      have e : sgns (b :: r) = sgns r + 1 := by conv => lhs; unfold sgns; rw [hb]; simp
      simp only [e, List.getElem_cons_succ] at h ⊢
      exact ih (by simpa [e] using h)
theorem sgnN_snoc (n : Nat) (l : List UInt8) (b : UInt8) : sgnN n (l ++ [b]) = sgnN n l * 64 + (sgv b).getD 0 := by
  induction l generalizing n with
  | nil => rfl
  | cons x r ih => exact ih _
theorem sgnN_lt (n : Nat) (l : List UInt8) (k : Nat) (h : n < k) : sgnN n l < k * 64 ^ l.length := by
  induction l generalizing n k with
  | nil => simpa [sgnN] using h
  | cons x r ih =>
    unfold sgnN
    have hx : (sgv x).getD 0 < 64 := by
      cases hs : sgv x with
      | none => simp
      | some m => simpa using sgv_lt hs
    have := ih (n * 64 + (sgv x).getD 0) (k * 64) (by omega)
    rw [List.length_cons, Nat.pow_succ]
    calc _ < k * 64 * 64 ^ r.length := this
      _ = _ := by rw [Nat.mul_comm (64 ^ r.length), Nat.mul_assoc]
end Go.Proofs.YtoleonldkifcbaaGreatDoor
namespace Go.Proofs.YtoleonldkifcbaaGreatDoor
open Go

theorem split_first {c : UInt8} {l : List UInt8} (h : c ∈ l) : ∃ p r, l = p ++ c :: r ∧ c ∉ p := by
  induction l with
  | nil => cases h
  | cons b q ih =>
    by_cases e : b = c
    · exact ⟨[], q, by rw [e]; rfl, by simp⟩
    · have : c ∈ q := by
        rcases List.mem_cons.1 h with h | h
        · exact absurd h.symm e
        · exact h
      obtain ⟨p, r, h1, h2⟩ := ih this
      refine ⟨b :: p, r, by rw [h1]; rfl, ?_⟩
      simp only [List.mem_cons, not_or]
      exact ⟨fun e' => e e'.symm, h2⟩
theorem index_none {c : UInt8} {l : List UInt8} (h : c ∉ l) : Lib.index l [c] = -1 := by
  induction l with
  | nil => rfl
  | cons b q ih =>
    simp only [List.mem_cons, not_or] at h
    unfold Lib.index
    rw [ih h.2]
    have : ([c].isPrefixOf (b :: q)) = false := by simp [List.isPrefixOf, h.1]
    rw [this]; rfl
theorem index_some {c : UInt8} {p r : List UInt8} (h : c ∉ p) : Lib.index (p ++ c :: r) [c] = p.length := by
  induction p with
  | nil => unfold Lib.index; simp [List.isPrefixOf]
  | cons b q ih =>
    simp only [List.mem_cons, not_or] at h
    have hp : ([c].isPrefixOf (b :: (q ++ c :: r))) = false := by simp [List.isPrefixOf, h.1]
    show Lib.index (b :: (q ++ c :: r)) [c] = _
    unfold Lib.index
    rw [ih h.2, hp]
    have : ((q.length : Int) == -1) = false := by rw [beq_eq_false_iff_ne]; omega
    simp [this]

theorem splitK_cut (c : UInt8) (k : Nat) (l : List UInt8) (h : l.count c = k) : Lib.splitK [c] 0 k l = cutB c l := by
  induction k generalizing l with
  | zero =>
    have : c ∉ l := by rw [← List.count_eq_zero]; exact h
    rw [cutB_none _ _ this]; rfl
  | succ k ih =>
    have hm : c ∈ l := by rw [← List.count_pos_iff]; omega
    obtain ⟨p, r, rfl, hp⟩ := split_first hm
    rw [cutB_free _ _ _ hp]
    have hr : r.count c = k := by
      rw [List.count_append, List.count_cons_self, List.count_eq_zero.2 hp] at h; omega
    unfold Lib.splitK
    rw [index_some hp]
    have : ((p.length : Int) == -1) = false := by rw [beq_eq_false_iff_ne]; omega
    rw [this]
    simp only [Bool.false_eq_true, if_false, Int.toNat_natCast, Nat.add_zero, List.length_singleton]
    rw [List.take_left, List.drop_append, List.drop_of_length_le (by omega), show p.length + 1 - p.length = 1 by omega, List.drop_one, List.tail_cons, List.nil_append, ih r hr]
theorem count_cut (c : UInt8) (l : List UInt8) : (cutB c l).length = l.count c + 1 := by
  induction hk : l.count c generalizing l with
  | zero =>
    have : c ∉ l := by rw [← List.count_eq_zero]; exact hk
    rw [cutB_none _ _ this]; rfl
  | succ k ih =>
    have hm : c ∈ l := by rw [← List.count_pos_iff]; omega
    obtain ⟨p, r, rfl, hp⟩ := split_first hm
    rw [cutB_free _ _ _ hp]
    have hr : r.count c = k := by
      rw [List.count_append, List.count_cons_self, List.count_eq_zero.2 hp] at hk; omega
    rw [List.length_cons, ih r hr]

/-- The pieces of strings.Split at one byte. -/
theorem split_strs (s : ByteArray) (c : UInt8) : (Lib.splitB ⟨#[c]⟩ 0 (Lib.countB s ⟨#[c]⟩) s) = (cutB c s.data.toList).map bs := by
  have h1 := Lib.splitB_data ⟨#[c]⟩ 0 (Lib.countB s ⟨#[c]⟩) s
  have hc : Lib.countB s ⟨#[c]⟩ = s.data.toList.count c := Lib.count_one c s.data.toList
  rw [hc] at h1 ⊢
  rw [splitK_cut c _ _ rfl] at h1
  rw [← h1, List.map_map]
  conv => lhs; rw [← List.map_id (Lib.splitB _ _ _ _)]
  exact List.map_congr_left fun x _ => (bs_of x).symm

theorem cut_none {c : UInt8} {l : List UInt8} (h : c ∉ l) : Lib.cut l [c] = (l, [], false) := by
  unfold Lib.cut; rw [index_none h, if_neg (by omega)]
theorem cut_some {c : UInt8} {p r : List UInt8} (h : c ∉ p) : Lib.cut (p ++ c :: r) [c] = (p, r, true) := by
  unfold Lib.cut; rw [index_some h, if_pos (by omega)]
  simp

theorem not_zero {p : List UInt8} (h : isName p = true) : (0 : UInt8) ∉ p := by
  intro hm
  have := List.all_eq_true.1 (isName_all h) 0 hm
  exact absurd this (by decide)

theorem parse_no {s : List UInt8} (h : s.take 1 ≠ [0]) : parseP s = none := by
  unfold parseP
  split
  · next e u p heq =>
    rw [if_neg]
    rintro ⟨rfl, -⟩
    apply h
    cases s with
    | nil => simp [cutB] at heq
    | cons b r =>
      unfold cutB at heq
      split at heq
      · next hb => rw [hb]; rfl
      · cases hr : cutB 0 r with
        | nil => rw [hr] at heq; simp at heq
        | cons x y => rw [hr] at heq; simp at heq
  · rfl
theorem parse_yes (r : List UInt8) : parseP (0 :: r) = if (Lib.cut r [0]).2.2 = true ∧ isName (Lib.cut r [0]).1 = true ∧ isName (Lib.cut r [0]).2.1 = true then some ((Lib.cut r [0]).1, (Lib.cut r [0]).2.1) else none := by
  have e0 : cutB 0 (0 :: r) = [] :: cutB 0 r := by show (if (0 : UInt8) = 0 then _ else _) = _; rw [if_pos rfl]
  unfold parseP
  rw [e0]
  by_cases hm : (0 : UInt8) ∈ r
  · obtain ⟨p, q, rfl, hp⟩ := split_first hm
    rw [cut_some hp, cutB_free _ _ _ hp]
    by_cases hq : (0 : UInt8) ∈ q
    · have hn : isName q = false := by
        cases h : isName q with
        | false => rfl
        | true => exact absurd hq (not_zero h)
      rw [if_neg (by rw [hn]; simp)]
      have hl := count_cut 0 q
      have hc : 0 < q.count 0 := List.count_pos_iff.2 hq
      cases hcq : cutB 0 q with
      | nil => exact absurd hcq (cutB_ne _ _)
      | cons x y =>
        cases y with
        | nil => rw [hcq] at hl; simp at hl; omega
        | cons z t => rfl
    · rw [cutB_none _ _ hq]
      simp
  · rw [cut_none hm, cutB_none _ _ hm, if_neg (by simp)]
end Go.Proofs.YtoleonldkifcbaaGreatDoor
namespace Go.Proofs.YtoleonldkifcbaaGreatDoor
open Go

/-- A digit. -/
def isDg (b : UInt8) : Bool := decide (48 ≤ (b.toNat : Int)) && decide ((b.toNat : Int) ≤ 57)
def dgv (b : UInt8) : Int := (b.toNat : Int) - 48
/-- Reads a number at the head. -/
def numR : List UInt8 → Option (Int × List UInt8)
  | [] => none
  | c :: t => if c = 42 then some (0, t) else if isDg c = true ∧ c ≠ 48 then
      (match t with
        | [] => some (dgv c, [])
        | d :: t' => if isDg d = true then some (10 * dgv c + dgv d, t') else some (dgv c, d :: t'))
    else none
/-- Reads a span at the head. -/
def spanR (r : List UInt8) : Option ((Int × Int) × List UInt8) :=
  match numR r with
  | none => none
  | some (a, r1) => match r1 with
    | [] => some ((a, a), [])
    | c :: t => if c = 58 then (match numR t with | none => none | some (b, r2) => some ((a, b), r2)) else some ((a, a), c :: t)
/-- Reads at most n spans. -/
def setR : Nat → List UInt8 → Option (List (Int × Int))
  | 0, _ => none
  | n + 1, r => match spanR r with
    | none => none
    | some (s, r1) => match r1 with
      | [] => some [s]
      | c :: t => if c = 44 then (setR n t).map (s :: ·) else none
/-- The set of a text. -/
def setP (r : List UInt8) : Option (List (Int × Int)) := setR 6 r

/-- A word of a number. -/
def numW (p : List UInt8) : Option Int :=
  match p with
  | [c] => if c = 42 then some 0 else if isDg c = true ∧ c ≠ 48 then some (dgv c) else none
  | [c, d] => if isDg c = true ∧ c ≠ 48 ∧ isDg d = true then some (10 * dgv c + dgv d) else none
  | _ => none
def partW (p : List UInt8) : Option (Int × Int) :=
  match cutB 58 p with
  | [a] => (numW a).bind fun x => some (x, x)
  | [a, b] => (numW a).bind fun x => (numW b).bind fun y => some (x, y)
  | _ => none
/-- All parts. -/
def partsW : List (List UInt8) → Option (List (Int × Int))
  | [] => some []
  | p :: ps => (partW p).bind fun s => (partsW ps).bind fun l => some (s :: l)
def setS (r : List UInt8) : Option (List (Int × Int)) := if (cutB 44 r).length ≤ 6 then partsW (cutB 44 r) else none

theorem isDg_ne {b : UInt8} (h : isDg b = true) : b ≠ 42 ∧ b ≠ 44 ∧ b ≠ 58 := by
  unfold isDg at h
  simp at h
  refine ⟨?_, ?_, ?_⟩ <;> (rintro rfl; revert h; decide)
theorem dgv_bd {b : UInt8} (h : isDg b = true) : 0 ≤ dgv b ∧ dgv b ≤ 9 := by
  unfold isDg at h; unfold dgv; simp at h; omega

/-- A number at the head of a word that has no colon and no comma. -/
theorem numR_word (p q : List UInt8) (h1 : 58 ∉ p) (h2 : 44 ∉ p) (hq : q = [] ∨ ∃ t, q = 58 :: t ∨ q = 44 :: t) :
    (∀ n, numR (p ++ q) = some (n, q) ↔ numW p = some n) ∧ (numW p = none → ∀ n r, numR (p ++ q) = some (n, r) → ∃ c t, r = c :: t ∧ c ≠ 58 ∧ c ≠ 44) := by
  have hqd : ∀ d t, q = d :: t → isDg d = false ∧ (d = 58 ∨ d = 44) := by
    intro d t e
    rcases hq with rfl | ⟨t', rfl | rfl⟩
    · cases e
    · injection e with e1 e2; subst e1; exact ⟨by decide, .inl rfl⟩
    · injection e with e1 e2; subst e1; exact ⟨by decide, .inr rfl⟩
  match p with
  | [] =>
    refine ⟨fun n => ⟨fun h => ?_, fun h => by simp [numW] at h⟩, fun _ n r h => ?_⟩
    · rcases hq with rfl | ⟨t', rfl | rfl⟩
      · simp [numR] at h
      · simp [numR, isDg] at h
      · simp [numR, isDg] at h
    · rcases hq with rfl | ⟨t', rfl | rfl⟩
      · simp [numR] at h
      · simp [numR, isDg] at h
      · simp [numR, isDg] at h
  | [c] =>
    by_cases hc : c = 42
    · subst hc; simp [numR, numW]
    · by_cases hd : isDg c = true ∧ c ≠ 48
      · cases q with
        | nil => simp [numR, numW, hc, hd]
        | cons d t =>
          obtain ⟨g1, g2⟩ := hqd d t rfl
          simp [numR, numW, hc, hd, g1]
      · simp only [List.singleton_append, numR, numW, hc, hd, if_false]
        simp
  | [c, d] =>
    by_cases hc : c = 42
    · subst hc
      have hd2 : d ≠ 58 ∧ d ≠ 44 := by simp at h1 h2; exact ⟨fun e => h1 e.symm, fun e => h2 e.symm⟩
      have : isDg 42 = false := by decide
      refine ⟨fun n => ?_, fun _ n r h => ?_⟩
      · simp only [List.cons_append, List.nil_append, numR, numW, if_true, this]
        constructor
        · intro h; simp at h
        · intro h; simp at h
      · simp [numR] at h; exact ⟨d, q, h.2.symm, hd2.1, hd2.2⟩
    · have hd2 : d ≠ 58 ∧ d ≠ 44 := by simp at h1 h2; exact ⟨fun e => h1.2 e.symm, fun e => h2.2 e.symm⟩
      by_cases hd : isDg c = true ∧ c ≠ 48
      · by_cases he : isDg d = true
        · simp [numR, numW, hc, hd, he]
        · refine ⟨fun n => ?_, fun _ n r h => ?_⟩
          · simp [numR, numW, hc, hd, he]
          · simp [numR, hc, hd, he] at h; exact ⟨d, q, h.2.symm, hd2.1, hd2.2⟩
      · have hd' : ¬ (isDg c = true ∧ c ≠ 48 ∧ isDg d = true) := fun h => hd ⟨h.1, h.2.1⟩
        simp only [List.cons_append, List.nil_append, numR, numW, hc, hd, hd', if_false]
        simp
  | c :: d :: e :: p' =>
    have hnw : numW (c :: d :: e :: p') = none := rfl
    have he2 : e ≠ 58 ∧ e ≠ 44 ∧ d ≠ 58 ∧ d ≠ 44 := by simp at h1 h2; exact ⟨fun x => h1.2.2.1 x.symm, fun x => h2.2.2.1 x.symm, fun x => h1.2.1 x.symm, fun x => h2.2.1 x.symm⟩
    have key : ∀ n r, numR ((c :: d :: e :: p') ++ q) = some (n, r) → ∃ c' t, r = c' :: t ∧ c' ≠ 58 ∧ c' ≠ 44 ∧ q.length < r.length := by
      intro n r h
      simp only [List.cons_append, numR] at h
      by_cases hc : c = 42
      · rw [if_pos hc] at h; simp at h; exact ⟨d, _, h.2.symm, he2.2.2.1, he2.2.2.2, by rw [← h.2]; simp; omega⟩
      · rw [if_neg hc] at h
        by_cases hd : isDg c = true ∧ c ≠ 48
        · rw [if_pos hd] at h
          by_cases hdd : isDg d = true
          · rw [if_pos hdd] at h; simp at h; exact ⟨e, _, h.2.symm, he2.1, he2.2.1, by rw [← h.2]; simp; omega⟩
          · rw [if_neg hdd] at h; simp at h; exact ⟨d, _, h.2.symm, he2.2.2.1, he2.2.2.2, by rw [← h.2]; simp; omega⟩
        · rw [if_neg hd] at h; cases h
    refine ⟨fun n => ⟨fun h => ?_, fun h => by rw [hnw] at h; cases h⟩, fun _ n r h => ?_⟩
    · obtain ⟨_, _, _, _, _, hl⟩ := key _ _ h; omega
    · obtain ⟨c', t, h1, h2, h3, _⟩ := key _ _ h; exact ⟨c', t, h1, h2, h3⟩

theorem first_at {c : UInt8} {l : List UInt8} (h : c ∈ l) : ∃ p r, l = p ++ c :: r ∧ c ∉ p := by
  induction l with
  | nil => cases h
  | cons b q ih =>
    by_cases hb : b = c
    · subst hb; exact ⟨[], q, rfl, by simp⟩
    · obtain ⟨p, r, e, hn⟩ := ih ((List.mem_cons.1 h).resolve_left (fun e => hb e.symm))
      exact ⟨b :: p, r, by rw [e]; rfl, by simp only [List.mem_cons, not_or]; exact ⟨fun e => hb e.symm, hn⟩⟩

theorem cut_two (c : UInt8) (p : List UInt8) : (c ∉ p ∧ cutB c p = [p]) ∨ ∃ a b, p = a ++ c :: b ∧ c ∉ a ∧ cutB c p = a :: cutB c b := by
  by_cases h : c ∈ p
  · right
    obtain ⟨a, b, rfl, ha⟩ := first_at h
    exact ⟨a, b, rfl, ha, cutB_free c a b ha⟩
  · exact .inl ⟨h, cutB_none c p h⟩

/-- A span at the head of a part. -/
theorem spanR_part (p q : List UInt8) (h2 : 44 ∉ p) (hq : q = [] ∨ ∃ t, q = 44 :: t) :
    (∀ s, spanR (p ++ q) = some (s, q) ↔ partW p = some s) ∧ (partW p = none → ∀ s r, spanR (p ++ q) = some (s, r) → ∃ c t, r = c :: t ∧ c ≠ 44) := by
  have hq' : q = [] ∨ ∃ t, q = 58 :: t ∨ q = 44 :: t := hq.imp_right fun ⟨t, e⟩ => ⟨t, .inr e⟩
  rcases cut_two 58 p with ⟨hn, hc⟩ | ⟨a, b, rfl, ha, hc⟩
  · obtain ⟨k1, k2⟩ := numR_word p q hn h2 hq'
    unfold partW
    rw [hc]
    simp only
    cases hw : numW p with
    | some n =>
      have hr := (k1 n).2 hw
      unfold spanR
      rw [hr]
      rcases hq with rfl | ⟨t, rfl⟩
      · simp
      · simp
    | none =>
      have hno := k2 hw
      refine ⟨fun s => ⟨fun h => ?_, fun h => by simp at h⟩, fun _ s r h => ?_⟩
      · unfold spanR at h
        split at h
        · cases h
        · rename_i n r1 hr
          obtain ⟨c, t, rfl, g1, g2⟩ := hno _ _ hr
          simp only [g1, if_false] at h
          injection h with h; injection h with h3 h4
          rcases hq with rfl | ⟨t', rfl⟩
          · cases h4
          · injection h4 with h5; exact absurd h5 g2
      · unfold spanR at h
        split at h
        · cases h
        · rename_i n r1 hr
          obtain ⟨c, t, rfl, g1, g2⟩ := hno _ _ hr
          simp only [g1, if_false] at h
          injection h with h; injection h with h3 h4
          exact ⟨c, t, h4.symm, g2⟩
  · have h2a : (44 : UInt8) ∉ a := fun e => h2 (by simp [e])
    have h2b : (44 : UInt8) ∉ b := fun e => h2 (by simp [e])
    obtain ⟨k1, k2⟩ := numR_word a (58 :: b ++ q) ha h2a (.inr ⟨b ++ q, .inl rfl⟩)
    have e0 : (a ++ 58 :: b) ++ q = a ++ (58 :: b ++ q) := by simp
    rw [e0]
    unfold partW
    rw [hc]
    cases hwa : numW a with
    | none =>
      have hno := k2 hwa
      have hpart : (match a :: cutB 58 b with | [a] => (numW a).bind fun x => some (x, x) | [a, b] => (numW a).bind fun x => (numW b).bind fun y => some (x, y) | _ => none) = none := by
        split
        · rename_i e; injection e with e1 e2; subst e1; rw [hwa]; rfl
        · rename_i e; injection e with e1 e2; subst e1; rw [hwa]; rfl
        · rfl
      rw [hpart]
      have key : ∀ s r, spanR (a ++ (58 :: b ++ q)) = some (s, r) → ∃ c t, r = c :: t ∧ c ≠ 44 := by
        intro s r h
        unfold spanR at h
        split at h
        · cases h
        · rename_i n r1 hr
          obtain ⟨c, t, rfl, g1, g2⟩ := hno _ _ hr
          simp only [g1, if_false] at h
          injection h with h; injection h with h3 h4
          exact ⟨c, t, h4.symm, g2⟩
      refine ⟨fun s => ⟨fun h => ?_, fun h => by cases h⟩, fun _ => key⟩
      obtain ⟨c, t, e, g⟩ := key _ _ h
      rcases hq with rfl | ⟨t', rfl⟩
      · cases e
      · injection e with e1; exact absurd e1.symm g
    | some n =>
      have hr := (k1 n).2 hwa
      have hs : spanR (a ++ (58 :: b ++ q)) = match numR (b ++ q) with | none => none | some (m, r2) => some ((n, m), r2) := by
        unfold spanR
        rw [hr]
        simp only [List.cons_append, if_true]
      rw [hs]
      rcases cut_two 58 b with ⟨hnb, hcb⟩ | ⟨b1, b2, rfl, hb1, hcb⟩
      · obtain ⟨m1, m2⟩ := numR_word b q hnb h2b hq'
        rw [hcb]
        simp only [hwa, Option.bind_some]
        cases hwb : numW b with
        | some m =>
          rw [(m1 m).2 hwb]
          simp
        | none =>
          have hno := m2 hwb
          refine ⟨fun s => ⟨fun h => ?_, fun h => by simp at h⟩, fun _ s r h => ?_⟩
          · split at h
            · cases h
            · rename_i m r2 hr2
              obtain ⟨c, t, rfl, g1, g2⟩ := hno _ _ hr2
              injection h with h; injection h with h3 h4
              rcases hq with rfl | ⟨t', rfl⟩
              · cases h4
              · injection h4 with h5; exact absurd h5 g2
          · split at h
            · cases h
            · rename_i m r2 hr2
              obtain ⟨c, t, rfl, g1, g2⟩ := hno _ _ hr2
              injection h with h; injection h with h3 h4
              exact ⟨c, t, h4.symm, g2⟩
      · have h3 : ∃ x y l, cutB 58 (b1 ++ 58 :: b2) = x :: y :: l := by
          rw [hcb]
          cases hh : cutB 58 b2 with
          | nil => exact absurd hh (cutB_ne _ _)
          | cons y l => exact ⟨_, _, _, rfl⟩
        obtain ⟨x, y, l, hx⟩ := h3
        rw [hx]
        simp only
        have h2b1 : (44 : UInt8) ∉ b1 := fun e => h2b (by simp [e])
        obtain ⟨m1, m2⟩ := numR_word b1 (58 :: b2 ++ q) hb1 h2b1 (.inr ⟨b2 ++ q, .inl rfl⟩)
        have e1 : (b1 ++ 58 :: b2) ++ q = b1 ++ (58 :: b2 ++ q) := by simp
        rw [e1]
        have key : ∀ s r, (match numR (b1 ++ (58 :: b2 ++ q)) with | none => none | some (m, r2) => some ((n, m), r2)) = some (s, r) → ∃ c t, r = c :: t ∧ c ≠ 44 := by
          intro s r h
          cases hwb : numW b1 with
          | some m =>
            rw [(m1 m).2 hwb] at h
            simp only at h
            injection h with h; injection h with h3 h4
            exact ⟨58, b2 ++ q, h4.symm, by decide⟩
          | none =>
            split at h
            · cases h
            · rename_i m r2 hr2
              obtain ⟨c, t, rfl, g1, g2⟩ := m2 hwb _ _ hr2
              injection h with h; injection h with h3 h4
              exact ⟨c, t, h4.symm, g2⟩
        refine ⟨fun s => ⟨fun h => ?_, fun h => by cases h⟩, fun _ => key⟩
        obtain ⟨c, t, e, g⟩ := key _ _ h
        rcases hq with rfl | ⟨t', rfl⟩
        · cases e
        · injection e with e1; exact absurd e1.symm g

theorem setR_parts (n : Nat) (r : List UInt8) : setR n r = if (cutB 44 r).length ≤ n then partsW (cutB 44 r) else none := by
  induction n generalizing r with
  | zero =>
    rw [if_neg (by have := cutB_pos 44 r; omega)]; rfl
  | succ n ih =>
    rcases cut_two 44 r with ⟨hn, hc⟩ | ⟨a, b, rfl, ha, hc⟩
    · obtain ⟨k1, k2⟩ := spanR_part r [] hn (.inl rfl)
      rw [List.append_nil] at k1 k2
      rw [hc, if_pos (by simp)]
      simp only [partsW, setR]
      cases hp : partW r with
      | some s => rw [(k1 s).2 hp]; rfl
      | none =>
        have hno := k2 hp
        split
        · rfl
        · rename_i s r1 hr
          obtain ⟨c, t, rfl, g⟩ := hno _ _ hr
          simp [g]
    · obtain ⟨k1, k2⟩ := spanR_part a (44 :: b) ha (.inr ⟨b, rfl⟩)
      rw [hc]
      simp only [partsW, setR, List.length_cons, Nat.add_le_add_iff_right]
      cases hp : partW a with
      | some s =>
        rw [(k1 s).2 hp]
        simp only [if_true, ih]
        by_cases hl : (cutB 44 b).length ≤ n
        · rw [if_pos hl, if_pos hl]
          cases partsW (cutB 44 b) <;> rfl
        · rw [if_neg hl, if_neg hl]; rfl
      | none =>
        have hno := k2 hp
        have : (match spanR (a ++ 44 :: b) with
            | none => none
            | some (s, r1) => match r1 with
              | [] => some [s]
              | c :: t => if c = 44 then (setR n t).map (s :: ·) else none) = none := by
          split
          · rfl
          · rename_i s r1 hr
            obtain ⟨c, t, rfl, g⟩ := hno _ _ hr
            simp [g]
        rw [this]
        split <;> rfl

/-- Both readings of a set agree. -/
theorem setP_same (r : List UInt8) : setP r = setS r := setR_parts 6 r

/-- A set's numbers. -/
def nOk (n : Int) : Bool := decide (0 ≤ n) && decide (n ≤ 99)
def setOk (l : List (Int × Int)) : Bool := (l.all fun s => nOk s.1 && nOk s.2) && (decide (1 ≤ l.length) && decide (l.length ≤ 6))

/-- The text of a number of a span. -/
def numT (n : Int) : List UInt8 := if n = 0 then [42] else if n < 10 then [UInt8.ofNat (48 + n.toNat)] else [UInt8.ofNat (48 + n.toNat / 10), UInt8.ofNat (48 + n.toNat % 10)]
def spanT (s : Int × Int) : List UInt8 := numT s.1 ++ (if s.2 = s.1 then [] else 58 :: numT s.2)
def joinT : List (List UInt8) → List UInt8
  | [] => []
  | [p] => p
  | p :: q :: r => p ++ 44 :: joinT (q :: r)
/-- The text of a set. -/
def setT (l : List (Int × Int)) : List UInt8 := if setOk l = true then joinT (l.map spanT) else []

theorem numT_facts : ∀ n : Fin 100, numW (numT n.val) = some (n.val : Int) ∧ (58 : UInt8) ∉ numT n.val ∧ (44 : UInt8) ∉ numT n.val ∧ (32 : UInt8) ∉ numT n.val ∧ (numT n.val).length ≤ 2 ∧ 1 ≤ (numT n.val).length := by decide +kernel
theorem numT_ok {n : Int} (h : nOk n = true) : numW (numT n) = some n ∧ (58 : UInt8) ∉ numT n ∧ (44 : UInt8) ∉ numT n ∧ (32 : UInt8) ∉ numT n ∧ (numT n).length ≤ 2 ∧ 1 ≤ (numT n).length := by
  unfold nOk at h
  simp at h
  obtain ⟨m, rfl⟩ : ∃ m : Nat, n = m := ⟨n.toNat, by omega⟩
  exact numT_facts ⟨m, by omega⟩
theorem spanT_ok {s : Int × Int} (h1 : nOk s.1 = true) (h2 : nOk s.2 = true) : partW (spanT s) = some s ∧ (44 : UInt8) ∉ spanT s ∧ (32 : UInt8) ∉ spanT s ∧ (spanT s).length ≤ 5 := by
  obtain ⟨a1, a2, a3, a4, a5, -⟩ := numT_ok h1
  obtain ⟨b1, b2, b3, b4, b5, -⟩ := numT_ok h2
  obtain ⟨x, y⟩ := s
  dsimp only at *
  unfold spanT
  by_cases e : y = x
  · subst e
    simp only [if_true, List.append_nil]
    refine ⟨?_, a3, a4, by omega⟩
    unfold partW
    rw [cutB_none _ _ a2]
    simp [a1]
  · simp only [e, if_false]
    refine ⟨?_, by simp [a3, b3], by simp [a4, b4], by simp; omega⟩
    unfold partW
    rw [cutB_free _ _ _ a2, cutB_none _ _ b2]
    simp [a1, b1]
theorem cut_join (l : List (List UInt8)) (h : l ≠ []) (hn : ∀ p ∈ l, (44 : UInt8) ∉ p) : cutB 44 (joinT l) = l := by
  induction l with
  | nil => exact absurd rfl h
  | cons p l ih =>
    cases l with
    | nil => exact cutB_none _ _ (hn p (by simp))
    | cons q r =>
      rw [joinT, cutB_free _ _ _ (hn p (by simp)), ih (by simp) (fun x hx => hn x (by simp [List.mem_cons] at hx ⊢; exact .inr hx))]
theorem partsW_map (l : List (Int × Int)) (h : ∀ s ∈ l, nOk s.1 = true ∧ nOk s.2 = true) : partsW (l.map spanT) = some l := by
  induction l with
  | nil => rfl
  | cons s l ih =>
    simp only [List.map_cons, partsW, (spanT_ok (h s (by simp)).1 (h s (by simp)).2).1, ih (fun x hx => h x (by simp [hx])), Option.bind_some]
theorem setOk_mem {l : List (Int × Int)} (h : setOk l = true) : (∀ s ∈ l, nOk s.1 = true ∧ nOk s.2 = true) ∧ 1 ≤ l.length ∧ l.length ≤ 6 := by
  unfold setOk at h
  simp only [Bool.and_eq_true, decide_eq_true_eq, List.all_eq_true] at h
  exact ⟨fun s hs => h.1 s hs, h.2.1, h.2.2⟩
/-- A written set can be read. -/
theorem setS_text (l : List (Int × Int)) (h : setOk l = true) : setS (setT l) = some l := by
  obtain ⟨h1, h2, h3⟩ := setOk_mem h
  unfold setS setT
  rw [if_pos h, cut_join _ (by intro e; have := congrArg List.length e; rw [List.length_map] at this; simp only [List.length_nil] at this; omega) (fun p hp => by
    obtain ⟨s, hs, rfl⟩ := List.mem_map.1 hp; exact (spanT_ok (h1 s hs).1 (h1 s hs).2).2.1), List.length_map, if_pos h3, partsW_map l h1]
theorem setP_text (l : List (Int × Int)) (h : setOk l = true) : setP (setT l) = some l := by rw [setP_same, setS_text l h]

theorem numW_ok {p : List UInt8} {n : Int} (h : numW p = some n) : nOk n = true := by
  unfold numW at h
  unfold nOk
  split at h
  · split at h
    · injection h with h; subst h; rfl
    · split at h
      · rename_i c _ hd; injection h with h; subst h; have := dgv_bd hd.1; simp; omega
      · cases h
  · split at h
    · rename_i c d hd; injection h with h; subst h; have := dgv_bd hd.1; have := dgv_bd hd.2.2; simp; omega
    · cases h
  · cases h
theorem partW_ok {p : List UInt8} {s : Int × Int} (h : partW p = some s) : nOk s.1 = true ∧ nOk s.2 = true := by
  unfold partW at h
  split at h
  · rename_i a _
    cases ha : numW a with
    | none => rw [ha] at h; cases h
    | some x => rw [ha] at h; simp at h; subst h; exact ⟨numW_ok ha, numW_ok ha⟩
  · rename_i a b _
    cases ha : numW a with
    | none => rw [ha] at h; cases h
    | some x =>
      cases hb : numW b with
      | none => rw [ha, hb] at h; cases h
      | some y => rw [ha, hb] at h; simp at h; subst h; exact ⟨numW_ok ha, numW_ok hb⟩
  · cases h
theorem partsW_ok {ps : List (List UInt8)} {l : List (Int × Int)} (h : partsW ps = some l) : l.length = ps.length ∧ ∀ s ∈ l, nOk s.1 = true ∧ nOk s.2 = true := by
  induction ps generalizing l with
  | nil => simp [partsW] at h; subst h; simp
  | cons p ps ih =>
    unfold partsW at h
    cases hp : partW p with
    | none => rw [hp] at h; cases h
    | some s =>
      cases hq : partsW ps with
      | none => rw [hp, hq] at h; cases h
      | some l' =>
        rw [hp, hq] at h
        simp at h
        subst h
        obtain ⟨e1, e2⟩ := ih hq
        refine ⟨by simp [e1], fun x hx => ?_⟩
        rcases List.mem_cons.1 hx with rfl | hx
        · exact partW_ok hp
        · exact e2 x hx
/-- What is read is a set. -/
theorem setS_ok {r : List UInt8} {l : List (Int × Int)} (h : setS r = some l) : setOk l = true := by
  unfold setS at h
  split at h
  · rename_i hl
    obtain ⟨e1, e2⟩ := partsW_ok h
    unfold setOk
    simp only [Bool.and_eq_true, decide_eq_true_eq, List.all_eq_true]
    refine ⟨fun s hs => e2 s hs, ?_, by omega⟩
    have := cutB_pos 44 r; omega
  · cases h
theorem joinT_free {c : UInt8} (hc : c ≠ 44) (l : List (List UInt8)) (h : ∀ p ∈ l, c ∉ p) : c ∉ joinT l := by
  induction l with
  | nil => simp [joinT]
  | cons p l ih =>
    cases l with
    | nil => exact h p (by simp)
    | cons q r =>
      rw [joinT]
      simp only [List.mem_append, List.mem_cons, not_or]
      exact ⟨h p (by simp), hc, ih (fun x hx => h x (by simp [List.mem_cons] at hx ⊢; exact .inr hx))⟩
theorem joinT_len (l : List (List UInt8)) (k : Nat) (h : ∀ p ∈ l, p.length ≤ k) : (joinT l).length ≤ l.length * (k + 1) := by
  induction l with
  | nil => simp [joinT]
  | cons p l ih =>
    cases l with
    | nil => have := h p (by simp); simp [joinT]; omega
    | cons q r =>
      have h1 := h p (by simp)
      have h2 := ih (fun x hx => h x (by simp [List.mem_cons] at hx ⊢; exact .inr hx))
      rw [joinT]
      simp only [List.length_append, List.length_cons, Nat.succ_mul] at h2 ⊢
      omega
theorem setT_facts (l : List (Int × Int)) : (32 : UInt8) ∉ setT l ∧ (setT l).length ≤ 36 := by
  unfold setT
  by_cases h : setOk l = true
  · obtain ⟨h1, h2, h3⟩ := setOk_mem h
    rw [if_pos h]
    have hp : ∀ p ∈ l.map spanT, (32 : UInt8) ∉ p ∧ p.length ≤ 5 := fun p hp => by
      obtain ⟨s, hs, rfl⟩ := List.mem_map.1 hp; exact ⟨(spanT_ok (h1 s hs).1 (h1 s hs).2).2.2.1, (spanT_ok (h1 s hs).1 (h1 s hs).2).2.2.2⟩
    refine ⟨joinT_free (by decide) _ fun p h => (hp p h).1, ?_⟩
    have := joinT_len (l.map spanT) 5 fun p h => (hp p h).2
    rw [List.length_map] at this; exact Nat.le_trans this (Nat.mul_le_mul_right 6 h3)
  · rw [if_neg h]; simp
end Go.Proofs.YtoleonldkifcbaaGreatDoor
namespace Go.Proofs.YtoleonldkifcbaaGreatDoor
open Go

/-- A key. -/
inductive Ky where
  | mk (kind flag : Int) (text : List UInt8) (set : List (Int × Int)) (keys : List Ky)
def Ky.kind : Ky → Int | .mk a _ _ _ _ => a
def Ky.flag : Ky → Int | .mk _ a _ _ _ => a
def Ky.text : Ky → List UInt8 | .mk _ _ a _ _ => a
def Ky.set : Ky → List (Int × Int) | .mk _ _ _ a _ => a
def Ky.keys : Ky → List Ky | .mk _ _ _ _ a => a
/-- No key. -/
def kyNone : Ky := .mk 0 0 [] [] []

mutual
/-- The number of nodes. -/
def nodesK : Ky → Nat
  | .mk _ _ _ _ ks => 1 + nodesL ks
def nodesL : List Ky → Nat
  | [] => 0
  | k :: ks => nodesK k + nodesL ks
end
def isFl (n : Int) : Bool := decide (n = 1) || decide (n = 2) || decide (n = 4) || decide (n = 8) || decide (n = 16)
/-- No field but those of the kind. -/
def fieldsOk (kind flag : Int) (text : List UInt8) (set : List (Int × Int)) : Bool :=
  (decide (kind = 1) || decide (flag = 0)) && (decide (kind = 2) || decide (text.length = 0)) && (decide (kind = 3) || decide (kind = 4) || decide (set.length = 0))
/-- The kind's own field, and how many keys. -/
def kindOk (kind flag : Int) (text : List UInt8) (set : List (Int × Int)) (n : Nat) : Bool :=
  if kind = 0 then decide (n = 0) else if kind = 1 then isFl flag && decide (n = 0) else if kind = 2 then isName text && decide (n = 0)
  else if kind = 3 ∨ kind = 4 then setOk set && decide (n = 0) else if kind = 5 then decide (n = 1) else if kind = 6 ∨ kind = 7 then decide (n = 2) else false
def nodeOk (kind flag : Int) (text : List UInt8) (set : List (Int × Int)) (n : Nat) : Bool := fieldsOk kind flag text set && kindOk kind flag text set n
mutual
def allK : Ky → Bool
  | .mk a b c d ks => allL ks && nodeOk a b c d ks.length
def allL : List Ky → Bool
  | [] => true
  | k :: ks => allK k && allL ks
end
def validK (k : Ky) : Bool := allK k && decide (nodesK k ≤ 9)

def tSeen : List UInt8 := [115, 101, 101, 110]
def tAnswered : List UInt8 := [97, 110, 115, 119, 101, 114, 101, 100]
def tFlagged : List UInt8 := [102, 108, 97, 103, 103, 101, 100]
def tDeleted : List UInt8 := [100, 101, 108, 101, 116, 101, 100]
def tDraft : List UInt8 := [100, 114, 97, 102, 116]
def tAll : List UInt8 := [97, 108, 108]
def tText : List UInt8 := [116, 101, 120, 116]
def tAt : List UInt8 := [97, 116]
def tUid : List UInt8 := [117, 105, 100]
def tNot : List UInt8 := [110, 111, 116]
def tAnd : List UInt8 := [97, 110, 100]
def tOr : List UInt8 := [111, 114]
/-- The word of one flag. -/
def flT (n : Int) : List UInt8 := if n = 1 then tSeen else if n = 2 then tAnswered else if n = 4 then tFlagged else if n = 8 then tDeleted else if n = 16 then tDraft else []
def headT (kind flag : Int) (text : List UInt8) (set : List (Int × Int)) : List UInt8 :=
  if kind = 0 then tAll else if kind = 1 then flT flag else if kind = 2 then tText ++ 32 :: text else if kind = 3 then tAt ++ 32 :: setT set else if kind = 4 then tUid ++ 32 :: setT set
  else if kind = 5 then tNot else if kind = 6 then tAnd else if kind = 7 then tOr else []
mutual
/-- The text of a key. -/
def fmtK : Ky → List UInt8
  | .mk a b c d ks => headT a b c d ++ fmtL ks
def fmtL : List Ky → List UInt8
  | [] => []
  | k :: ks => 32 :: fmtK k ++ fmtL ks
end
def fmtV (k : Ky) : List UInt8 := if validK k = true then fmtK k else []

/-- The flag of a word. -/
def wordFl (w : List UInt8) : Option Int := if w = tSeen then some 1 else if w = tAnswered then some 2 else if w = tFlagged then some 4 else if w = tDeleted then some 8 else if w = tDraft then some 16 else none
/-- A word of a node with keys. -/
def wordJ (w : List UInt8) : Option (Int × Bool) := if w = tNot then some (5, false) else if w = tAnd then some (6, true) else if w = tOr then some (7, true) else none
/-- A leaf, as the reference reads it. -/
def leafS (w : List UInt8) (ws : List (List UInt8)) : Option (Ky × List (List UInt8)) :=
  match wordFl w with
  | some n => some (.mk 1 n [] [] [], ws)
  | none => if w = tAll then some (.mk 0 0 [] [] [], ws) else
    if w = tText ∧ isName (ws.headD []) = true then some (.mk 2 0 (ws.headD []) [] [], ws.tail) else
    match setS (ws.headD []) with
    | none => none
    | some s => if w = tAt then some (.mk 3 0 [] s [], ws.tail) else if w = tUid then some (.mk 4 0 [] s [], ws.tail) else none
/-- The reference's reading, with at most so many words. -/
def readK : Nat → List (List UInt8) → Option (Ky × List (List UInt8))
  | 0, _ => none
  | _ + 1, [] => none
  | n + 1, w :: ws => match wordJ w with
    | some (kind, two) => (match readK n ws with
      | none => none
      | some (k1, r1) => if two = true then (match readK n r1 with | none => none | some (k2, r2) => some (.mk kind 0 [] [] [k1, k2], r2)) else some (.mk kind 0 [] [] [k1], r1))
    | none => leafS w ws
/-- The program's leaf. -/
def leafI (w : List UInt8) (ws : List (List UInt8)) : Option (Ky × List (List UInt8)) :=
  if w = tAll then some (.mk 0 0 [] [] [], ws) else if w = tText then some (.mk 2 0 (ws.headD []) [] [], ws.tail) else
  if w = tAt then (setP (ws.headD [])).map (fun s => (.mk 3 0 [] s [], ws.tail)) else if w = tUid then (setP (ws.headD [])).map (fun s => (.mk 4 0 [] s [], ws.tail)) else
  (wordFl w).map (fun n => (.mk 1 n [] [] [], ws))
/-- The program's reading, with room for so many nodes. -/
def rdK : Nat → Nat → List (List UInt8) → Option (Ky × Nat × List (List UInt8))
  | 0, _, _ => none
  | _ + 1, 0, _ => none
  | n + 1, r + 1, ws => match wordJ (ws.headD []) with
    | some (kind, two) => (match rdK n r ws.tail with
      | none => none
      | some (k1, q1, r1) => if two = true then (match rdK n q1 r1 with | none => none | some (k2, q2, r2) => some (.mk kind 0 [] [] [k1, k2], q2, r2)) else some (.mk kind 0 [] [] [k1], q1, r1))
    | none => (leafI (ws.headD []) ws.tail).map (fun x => (x.1, r, x.2))
/-- The key of a text, by the reference and by the program. -/
def keyS (t : List UInt8) : Option Ky :=
  match readK ((cutB 32 t).length + 1) (cutB 32 t) with
  | some (k, []) => if validK k = true ∧ fmtK k = t then some k else none
  | _ => none
def keyI (t : List UInt8) : Option Ky :=
  match rdK 10 9 (cutB 32 t) with
  | some (k, _, _) => if t ≠ [] ∧ fmtV k = t then some k else none
  | none => none

mutual
/-- The words of a key. -/
def wordsK : Ky → List (List UInt8)
  | .mk a b c d ks => (if a = 0 then [tAll] else if a = 1 then [flT b] else if a = 2 then [tText, c] else if a = 3 then [tAt, setT d] else if a = 4 then [tUid, setT d]
    else if a = 5 then [tNot] else if a = 6 then [tAnd] else [tOr]) ++ wordsL ks
def wordsL : List Ky → List (List UInt8)
  | [] => []
  | k :: ks => wordsK k ++ wordsL ks
end
def joinSp : List (List UInt8) → List UInt8
  | [] => []
  | w :: ws => 32 :: w ++ joinSp ws
theorem joinSp_append (a b : List (List UInt8)) : joinSp (a ++ b) = joinSp a ++ joinSp b := by
  induction a with
  | nil => rfl
  | cons x a ih => simp [joinSp, ih]

theorem isFl_cases {n : Int} (h : isFl n = true) : n = 1 ∨ n = 2 ∨ n = 4 ∨ n = 8 ∨ n = 16 := by
  unfold isFl at h; simp at h; omega
theorem flT_of {n : Int} (h : isFl n = true) : wordFl (flT n) = some n ∧ wordJ (flT n) = none ∧ (32 : UInt8) ∉ flT n ∧ flT n ≠ tAll ∧ flT n ≠ tText ∧ flT n ≠ tAt ∧ flT n ≠ tUid := by
  rcases isFl_cases h with rfl | rfl | rfl | rfl | rfl <;> decide
theorem wordFl_ok {w : List UInt8} {n : Int} (h : wordFl w = some n) : isFl n = true ∧ w = flT n := by
  unfold wordFl at h
  repeat' split at h
  all_goals first
    | (injection h with h; subst h; refine ⟨rfl, ?_⟩; assumption)
    | cases h
theorem nm_free {p : List UInt8} (h : isName p = true) : (32 : UInt8) ∉ p := fun e => by
  have := List.all_eq_true.1 (isName_all h) _ e
  revert this; decide

theorem nodeOk_kinds {a b : Int} {c : List UInt8} {d : List (Int × Int)} {n : Nat} (h : nodeOk a b c d n = true) :
    (a = 0 ∧ b = 0 ∧ c = [] ∧ d = [] ∧ n = 0) ∨ (a = 1 ∧ isFl b = true ∧ c = [] ∧ d = [] ∧ n = 0) ∨ (a = 2 ∧ b = 0 ∧ isName c = true ∧ d = [] ∧ n = 0) ∨
    ((a = 3 ∨ a = 4) ∧ b = 0 ∧ c = [] ∧ setOk d = true ∧ n = 0) ∨ (a = 5 ∧ b = 0 ∧ c = [] ∧ d = [] ∧ n = 1) ∨ ((a = 6 ∨ a = 7) ∧ b = 0 ∧ c = [] ∧ d = [] ∧ n = 2) := by
  unfold nodeOk fieldsOk kindOk at h
  simp only [Bool.and_eq_true, Bool.or_eq_true, decide_eq_true_eq, List.length_eq_zero_iff] at h
  obtain ⟨⟨⟨h1, h2⟩, h3⟩, h4⟩ := h
  by_cases e0 : a = 0
  · subst e0; simp at h1 h2 h3 h4; exact .inl ⟨rfl, h1, h2, h3, h4⟩
  by_cases e1 : a = 1
  · subst e1; simp at h1 h2 h3 h4; exact .inr (.inl ⟨rfl, h4.1, h2, h3, h4.2⟩)
  by_cases e2 : a = 2
  · subst e2; simp at h1 h2 h3 h4; exact .inr (.inr (.inl ⟨rfl, h1, h4.1, h3, h4.2⟩))
  by_cases e3 : a = 3
  · subst e3; simp at h1 h2 h3 h4; exact .inr (.inr (.inr (.inl ⟨.inl rfl, h1, h2, h4.1, h4.2⟩)))
  by_cases e4 : a = 4
  · subst e4; simp at h1 h2 h3 h4; exact .inr (.inr (.inr (.inl ⟨.inr rfl, h1, h2, h4.1, h4.2⟩)))
  by_cases e5 : a = 5
  · subst e5; simp at h1 h2 h3 h4; exact .inr (.inr (.inr (.inr (.inl ⟨rfl, h1, h2, h3, h4⟩))))
  by_cases e6 : a = 6
  · subst e6; simp at h1 h2 h3 h4; exact .inr (.inr (.inr (.inr (.inr ⟨.inl rfl, h1, h2, h3, h4⟩))))
  by_cases e7 : a = 7
  · subst e7; simp at h1 h2 h3 h4; exact .inr (.inr (.inr (.inr (.inr ⟨.inr rfl, h1, h2, h3, h4⟩))))
  simp [e0, e1, e2, e3, e4, e5, e6, e7] at h4

mutual
/-- The words of a valid key: no blank in them; the text is the words with blanks between. -/
theorem wordsK_ok (k : Ky) (h : allK k = true) : (∀ w ∈ wordsK k, (32 : UInt8) ∉ w) ∧ 32 :: fmtK k = joinSp (wordsK k) ∧ wordsK k ≠ [] ∧ (wordsK k).length ≤ 2 * nodesK k ∧ (fmtK k).length + 1 ≤ 50 * nodesK k := by
  match k with
  | .mk a b c d ks =>
    unfold allK at h
    simp only [Bool.and_eq_true] at h
    obtain ⟨h1, h2⟩ := h
    obtain ⟨w1, w2, w3, w4⟩ := wordsL_ok ks h1
    unfold wordsK fmtK nodesK
    rcases nodeOk_kinds h2 with ⟨rfl, rfl, rfl, rfl, hn⟩ | ⟨rfl, hb, rfl, rfl, hn⟩ | ⟨rfl, rfl, hc, rfl, hn⟩ | ⟨ha, rfl, rfl, hd, hn⟩ | ⟨rfl, rfl, rfl, rfl, hn⟩ | ⟨ha, rfl, rfl, rfl, hn⟩
    · refine ⟨fun w hw => ?_, ?_, by simp, by simp; omega, by simp [headT, tAll]; omega⟩
      · simp at hw; rcases hw with rfl | hw
        · decide
        · exact w1 w hw
      · simp [joinSp, headT, w2]
    · obtain ⟨f1, f2, f3, -⟩ := flT_of hb
      refine ⟨fun w hw => ?_, ?_, by simp, by simp; omega, ?_⟩
      · simp at hw; rcases hw with rfl | hw
        · exact f3
        · exact w1 w hw
      · simp [joinSp, headT, w2]
      · rcases isFl_cases hb with rfl | rfl | rfl | rfl | rfl <;> (simp [headT, flT, tSeen, tAnswered, tFlagged, tDeleted, tDraft]; omega)
    · refine ⟨fun w hw => ?_, ?_, by simp, by simp; omega, ?_⟩
      · simp at hw; rcases hw with rfl | rfl | hw
        · decide
        · exact nm_free hc
        · exact w1 w hw
      · simp [joinSp, headT, w2]
      · have := isName_len hc; simp [headT, tText]; omega
    · have hs := setT_facts d
      rcases ha with rfl | rfl
      · refine ⟨fun w hw => ?_, ?_, by simp, by simp; omega, by simp [headT, tAt]; omega⟩
        · simp at hw; rcases hw with rfl | rfl | hw
          · decide
          · exact hs.1
          · exact w1 w hw
        · simp [joinSp, headT, w2]
      · refine ⟨fun w hw => ?_, ?_, by simp, by simp; omega, by simp [headT, tUid]; omega⟩
        · simp at hw; rcases hw with rfl | rfl | hw
          · decide
          · exact hs.1
          · exact w1 w hw
        · simp [joinSp, headT, w2]
    · refine ⟨fun w hw => ?_, ?_, by simp, by simp; omega, by simp [headT, tNot]; omega⟩
      · simp at hw; rcases hw with rfl | hw
        · decide
        · exact w1 w hw
      · simp [joinSp, headT, w2]
    · rcases ha with rfl | rfl
      · refine ⟨fun w hw => ?_, ?_, by simp, by simp; omega, by simp [headT, tAnd]; omega⟩
        · simp at hw; rcases hw with rfl | hw
          · decide
          · exact w1 w hw
        · simp [joinSp, headT, w2]
      · refine ⟨fun w hw => ?_, ?_, by simp, by simp; omega, by simp [headT, tOr]; omega⟩
        · simp at hw; rcases hw with rfl | hw
          · decide
          · exact w1 w hw
        · simp [joinSp, headT, w2]
theorem wordsL_ok (ks : List Ky) (h : allL ks = true) : (∀ w ∈ wordsL ks, (32 : UInt8) ∉ w) ∧ fmtL ks = joinSp (wordsL ks) ∧ (wordsL ks).length ≤ 2 * nodesL ks ∧ (fmtL ks).length ≤ 50 * nodesL ks := by
  match ks with
  | [] => simp [wordsL, fmtL, joinSp, nodesL]
  | k :: ks =>
    unfold allL at h
    simp only [Bool.and_eq_true] at h
    obtain ⟨a1, a2, a3, a4, a5⟩ := wordsK_ok k h.1
    obtain ⟨b1, b2, b3, b4⟩ := wordsL_ok ks h.2
    have hn : 1 ≤ nodesK k := by cases k; unfold nodesK; omega
    unfold wordsL fmtL nodesL
    refine ⟨fun w hw => ?_, ?_, by simp; omega, by simp; omega⟩
    · rcases List.mem_append.1 hw with hw | hw
      · exact a1 w hw
      · exact b1 w hw
    · rw [joinSp_append, ← a2, b2]
end

mutual
/-- The reference reads a valid key's words. -/
theorem readK_words (k : Ky) (h : allK k = true) (n : Nat) (rest : List (List UInt8)) (hn : (wordsK k ++ rest).length + 1 ≤ n) : readK n (wordsK k ++ rest) = some (k, rest) := by
  match k with
  | .mk a b c d ks =>
    unfold allK at h
    simp only [Bool.and_eq_true] at h
    obtain ⟨h1, h2⟩ := h
    obtain ⟨n, rfl⟩ : ∃ m, n = m + 1 := ⟨n - 1, by omega⟩
    unfold wordsK at hn ⊢
    rcases nodeOk_kinds h2 with ⟨rfl, rfl, rfl, rfl, hl⟩ | ⟨rfl, hb, rfl, rfl, hl⟩ | ⟨rfl, rfl, hc, rfl, hl⟩ | ⟨ha, rfl, rfl, hd, hl⟩ | ⟨rfl, rfl, rfl, rfl, hl⟩ | ⟨ha, rfl, rfl, rfl, hl⟩
    · obtain rfl := List.eq_nil_of_length_eq_zero hl
      rfl
    · obtain rfl := List.eq_nil_of_length_eq_zero hl
      obtain ⟨f1, f2, -, -⟩ := flT_of hb
      simp [wordsL, readK, f2, leafS, f1]
    · obtain rfl := List.eq_nil_of_length_eq_zero hl
      simp [wordsL, readK, show wordJ tText = none from rfl, leafS, show wordFl tText = none from rfl, show tText ≠ tAll by decide, hc]
    · obtain rfl := List.eq_nil_of_length_eq_zero hl
      rcases ha with rfl | rfl
      · simp [wordsL, readK, show wordJ tAt = none from rfl, leafS, show wordFl tAt = none from rfl, show tAt ≠ tAll by decide, show tAt ≠ tText by decide, setS_text d hd]
      · simp [wordsL, readK, show wordJ tUid = none from rfl, leafS, show wordFl tUid = none from rfl, show tUid ≠ tAll by decide, show tUid ≠ tText by decide, show tUid ≠ tAt by decide, setS_text d hd]
    · obtain ⟨k1, rfl⟩ := List.length_eq_one_iff.1 hl
      simp only [allL, Bool.and_eq_true, and_true] at h1
      simp [wordsL] at hn
      have := readK_words k1 h1 n rest (by simp; omega)
      simp [wordsL, readK, show wordJ tNot = some (5, false) from rfl, this]
    · obtain ⟨k1, k2, rfl⟩ : ∃ k1 k2, ks = [k1, k2] := by
        match ks, hl with
        | [k1, k2], _ => exact ⟨k1, k2, rfl⟩
      simp only [allL, Bool.and_eq_true, and_true] at h1
      rcases ha with rfl | rfl
      · simp [wordsL] at hn
        have e1 := readK_words k1 h1.1 n (wordsK k2 ++ rest) (by simp; omega)
        have e2 := readK_words k2 h1.2 n rest (by simp; omega)
        simp [wordsL, readK, show wordJ tAnd = some (6, true) from rfl, e1, e2]
      · simp [wordsL] at hn
        have e1 := readK_words k1 h1.1 n (wordsK k2 ++ rest) (by simp; omega)
        have e2 := readK_words k2 h1.2 n rest (by simp; omega)
        simp [wordsL, readK, show wordJ tOr = some (7, true) from rfl, e1, e2]
end
theorem nodesK_pos (k : Ky) : 1 ≤ nodesK k := by cases k; unfold nodesK; omega
/-- The program reads a valid key's words. -/
theorem rdK_words (k : Ky) (h : allK k = true) (n r : Nat) (rest : List (List UInt8)) (hn : r < n) (hr : nodesK k ≤ r) : rdK n r (wordsK k ++ rest) = some (k, r - nodesK k, rest) := by
  match k with
  | .mk a b c d ks =>
    unfold allK at h
    simp only [Bool.and_eq_true] at h
    obtain ⟨h1, h2⟩ := h
    obtain ⟨n, rfl⟩ : ∃ m, n = m + 1 := ⟨n - 1, by omega⟩
    have hp := nodesK_pos (.mk a b c d ks)
    obtain ⟨r, rfl⟩ : ∃ m, r = m + 1 := ⟨r - 1, by omega⟩
    clear hp
    unfold nodesK at hr ⊢
    unfold wordsK
    rcases nodeOk_kinds h2 with ⟨rfl, rfl, rfl, rfl, hl⟩ | ⟨rfl, hb, rfl, rfl, hl⟩ | ⟨rfl, rfl, hc, rfl, hl⟩ | ⟨ha, rfl, rfl, hd, hl⟩ | ⟨rfl, rfl, rfl, rfl, hl⟩ | ⟨ha, rfl, rfl, rfl, hl⟩
    · obtain rfl := List.eq_nil_of_length_eq_zero hl
      simp [wordsL, nodesL, rdK, show wordJ tAll = none from rfl, leafI]
    · obtain rfl := List.eq_nil_of_length_eq_zero hl
      obtain ⟨f1, f2, -, f3, f4, f5, f6⟩ := flT_of hb
      simp [wordsL, nodesL, rdK, f2, leafI, f1, f3, f4, f5, f6]
    · obtain rfl := List.eq_nil_of_length_eq_zero hl
      simp [wordsL, nodesL, rdK, show wordJ tText = none from rfl, leafI, show tText ≠ tAll by decide]
    · obtain rfl := List.eq_nil_of_length_eq_zero hl
      rcases ha with rfl | rfl
      · simp [wordsL, nodesL, rdK, show wordJ tAt = none from rfl, leafI, show tAt ≠ tAll by decide, show tAt ≠ tText by decide, setP_text d hd]
      · simp [wordsL, nodesL, rdK, show wordJ tUid = none from rfl, leafI, show tUid ≠ tAll by decide, show tUid ≠ tText by decide, show tUid ≠ tAt by decide, setP_text d hd]
    · obtain ⟨k1, rfl⟩ := List.length_eq_one_iff.1 hl
      simp only [allL, Bool.and_eq_true, and_true] at h1
      simp [nodesL] at hr
      have := rdK_words k1 h1 n r rest (by omega) (by omega)
      simp [wordsL, nodesL, rdK, show wordJ tNot = some (5, false) from rfl, this]
      omega
    · obtain ⟨k1, k2, rfl⟩ : ∃ k1 k2, ks = [k1, k2] := by
        match ks, hl with
        | [k1, k2], _ => exact ⟨k1, k2, rfl⟩
      simp only [allL, Bool.and_eq_true, and_true] at h1
      simp [nodesL] at hr
      have e1 := rdK_words k1 h1.1 n r (wordsK k2 ++ rest) (by omega) (by omega)
      have e2 := rdK_words k2 h1.2 n (r - nodesK k1) rest (by omega) (by omega)
      rcases ha with rfl | rfl
      · simp [wordsL, nodesL, rdK, show wordJ tAnd = some (6, true) from rfl, e1, e2]
        omega
      · simp [wordsL, nodesL, rdK, show wordJ tOr = some (7, true) from rfl, e1, e2]
        omega

theorem cut_joinSp (w : List UInt8) (ws : List (List UInt8)) (h : ∀ x ∈ w :: ws, (32 : UInt8) ∉ x) : cutB 32 (w ++ joinSp ws) = w :: ws := by
  induction ws generalizing w with
  | nil => rw [joinSp, List.append_nil]; exact cutB_none _ _ (h w (by simp))
  | cons x ws ih =>
    rw [joinSp, show w ++ (32 :: x ++ joinSp ws) = w ++ 32 :: (x ++ joinSp ws) by simp, cutB_free _ _ _ (h w (by simp)), ih x (fun y hy => h y (by simp [List.mem_cons] at hy ⊢; exact .inr hy))]
/-- The text of a valid key, cut at blanks. -/
theorem cut_fmt {k : Ky} (h : allK k = true) : cutB 32 (fmtK k) = wordsK k := by
  obtain ⟨h1, h2, h3, -⟩ := wordsK_ok k h
  cases hw : wordsK k with
  | nil => exact absurd hw h3
  | cons w ws =>
    rw [hw] at h1 h2
    have : fmtK k = w ++ joinSp ws := by
      simp only [joinSp, List.cons_append] at h2
      injection h2
    rw [this]; exact cut_joinSp w ws h1
theorem validK_all {k : Ky} (h : validK k = true) : allK k = true ∧ nodesK k ≤ 9 := by
  unfold validK at h; simpa using h
theorem keyS_fmt {k : Ky} (h : validK k = true) : keyS (fmtK k) = some k := by
  obtain ⟨h1, h2⟩ := validK_all h
  unfold keyS
  rw [cut_fmt h1]
  have := readK_words k h1 ((wordsK k).length + 1) [] (by simp)
  rw [List.append_nil] at this
  rw [this]
  simp [h]
theorem fmtK_ne {k : Ky} (h : validK k = true) : fmtK k ≠ [] := fun e => by
  obtain ⟨h1, h2⟩ := validK_all h
  obtain ⟨a1, a2, a3, -⟩ := wordsK_ok k h1
  have := keyS_fmt h
  rw [e] at this
  revert this
  have : keyS [] = none := rfl
  rw [this]; intro h; cases h
theorem keyI_fmt {k : Ky} (h : validK k = true) : keyI (fmtK k) = some k := by
  obtain ⟨h1, h2⟩ := validK_all h
  unfold keyI
  rw [cut_fmt h1]
  have := rdK_words k h1 10 9 [] (by omega) h2
  rw [List.append_nil] at this
  rw [this]
  simp [fmtK_ne h, fmtV, h]
theorem keyS_some {t : List UInt8} {k : Ky} (h : keyS t = some k) : validK k = true ∧ fmtK k = t := by
  unfold keyS at h
  split at h
  · split at h
    · rename_i hc; injection h with h; subst h; exact hc
    · cases h
  · cases h
theorem keyI_some {t : List UInt8} {k : Ky} (h : keyI t = some k) : validK k = true ∧ fmtK k = t := by
  unfold keyI at h
  split at h
  · split at h
    · rename_i hc
      injection h with h; subst h
      unfold fmtV at hc
      split at hc
      · rename_i hv; exact ⟨hv, hc.2⟩
      · exact absurd hc.2.symm hc.1
    · cases h
  · cases h
/-- Both readings of a key agree. -/
theorem key_same (t : List UInt8) : keyI t = keyS t := by
  cases hi : keyI t with
  | some k => obtain ⟨h1, rfl⟩ := keyI_some hi; rw [keyS_fmt h1]
  | none =>
    cases hs : keyS t with
    | none => rfl
    | some k => obtain ⟨h1, rfl⟩ := keyS_some hs; rw [keyI_fmt h1] at hi; cases hi

mutual
/-- The program's building of nodes, out of a room: what is left of it. -/
def bldK : Nat → Ky → Option Nat
  | r, .mk a b c d ks => if r = 0 then none else
    if a < 5 then (if nodeOk a b c d ks.length = true then some (r - 1) else none) else
    if nodeOk a b c d ks.length = true then bldL (r - 1) ks else none
def bldL : Nat → List Ky → Option Nat
  | r, [] => some r
  | r, k :: ks => match bldK r k with | none => none | some q => bldL q ks
end
mutual
theorem bldK_eq (r : Nat) (k : Ky) : bldK r k = if allK k = true ∧ nodesK k ≤ r then some (r - nodesK k) else none := by
  match k with
  | .mk a b c d ks =>
    unfold bldK allK nodesK
    simp only [Bool.and_eq_true]
    by_cases h0 : r = 0
    · rw [if_pos h0, if_neg (by omega)]
    rw [if_neg h0]
    by_cases hn : nodeOk a b c d ks.length = true
    · simp only [hn, if_true, and_true]
      by_cases ha : a < 5
      · have hk : ks = [] := by
          rcases nodeOk_kinds hn with ⟨rfl, _, _, _, hl⟩ | ⟨rfl, _, _, _, hl⟩ | ⟨rfl, _, _, _, hl⟩ | ⟨_, _, _, _, hl⟩ | ⟨rfl, _, _, _, hl⟩ | ⟨e, _, _, _, hl⟩
          · exact List.eq_nil_of_length_eq_zero hl
          · exact List.eq_nil_of_length_eq_zero hl
          · exact List.eq_nil_of_length_eq_zero hl
          · exact List.eq_nil_of_length_eq_zero hl
          · omega
          · omega
        subst hk
        rw [if_pos ha, if_pos (by simp [allL, nodesL]; omega)]
        simp [nodesL]
      · rw [if_neg ha, bldL_eq (r - 1) ks]
        by_cases hl : allL ks = true ∧ nodesL ks ≤ r - 1
        · rw [if_pos hl, if_pos ⟨hl.1, by omega⟩]; congr 1; omega
        · rw [if_neg hl, if_neg (fun h => hl ⟨h.1, by omega⟩)]
    · simp [hn]
theorem bldL_eq (r : Nat) (ks : List Ky) : bldL r ks = if allL ks = true ∧ nodesL ks ≤ r then some (r - nodesL ks) else none := by
  match ks with
  | [] => simp [bldL, allL, nodesL]
  | k :: ks =>
    unfold bldL allL nodesL
    rw [bldK_eq r k]
    simp only [Bool.and_eq_true]
    by_cases h1 : allK k = true ∧ nodesK k ≤ r
    · rw [if_pos h1]
      simp only
      rw [bldL_eq _ ks]
      by_cases h2 : allL ks = true ∧ nodesL ks ≤ r - nodesK k
      · rw [if_pos h2, if_pos ⟨⟨h1.1, h2.1⟩, by omega⟩]; congr 1; omega
      · rw [if_neg h2, if_neg (fun h => h2 ⟨h.1.2, by omega⟩)]
    · rw [if_neg h1, if_neg (fun h => h1 ⟨h.1.1, by omega⟩)]
end
/-- The program's check: nodes out of a room of nine. -/
theorem bldK_valid (k : Ky) : (bldK 9 k).isSome = validK k := by
  rw [bldK_eq, validK]
  by_cases h : allK k = true ∧ nodesK k ≤ 9
  · rw [if_pos h]; simp [h.1, h.2]
  · rw [if_neg h]
    simp only [Option.isSome_none]
    symm
    rw [Bool.eq_false_iff]
    simpa using h
end Go.Proofs.YtoleonldkifcbaaGreatDoor
namespace Go.Proofs.YtoleonldkifcbaaGreatDoor
open Go

theorem joinSp_snoc (ws : List (List UInt8)) (w : List UInt8) : joinSp (ws ++ [w]) = joinSp ws ++ 32 :: w := by
  rw [joinSp_append]; simp [joinSp]
/-- The words of a valid key's text with one word more. -/
theorem cut_more {k : Ky} (h : allK k = true) (w : List UInt8) (hw : (32 : UInt8) ∉ w) : cutB 32 (fmtK k ++ 32 :: w) = wordsK k ++ [w] := by
  obtain ⟨h1, h2, h3, -⟩ := wordsK_ok k h
  cases hk : wordsK k with
  | nil => exact absurd hk h3
  | cons x ws =>
    rw [hk] at h1 h2
    have hf : fmtK k = x ++ joinSp ws := by
      simp only [joinSp, List.cons_append] at h2
      injection h2
    rw [hf, show x ++ joinSp ws ++ 32 :: w = x ++ joinSp (ws ++ [w]) by rw [joinSp_snoc]; simp]
    refine cut_joinSp x (ws ++ [w]) (fun y hy => ?_)
    simp only [List.mem_cons, List.mem_append, List.not_mem_nil, or_false] at hy
    rcases hy with rfl | hy | rfl
    · exact h1 _ (by simp)
    · exact h1 _ (by simp [hy])
    · exact hw
theorem key_more {t : List UInt8} {k : Ky} (h : keyI t = some k) (w : List UInt8) (hw : (32 : UInt8) ∉ w) : keyI (t ++ 32 :: w) = none := by
  obtain ⟨h1, rfl⟩ := keyI_some h
  obtain ⟨h2, -⟩ := validK_all h1
  rw [key_same]
  unfold keyS
  rw [cut_more h2 w hw, readK_words k h2 _ [w] (Nat.le_refl _)]
theorem key_blank {t : List UInt8} {k : Ky} (h : keyI t = some k) : keyI (32 :: t) = none := by
  obtain ⟨h1, rfl⟩ := keyI_some h
  obtain ⟨h2, -⟩ := validK_all h1
  rw [key_same]
  unfold keyS
  have hc : cutB 32 (32 :: fmtK k) = [] :: cutB 32 (fmtK k) := cutB_free 32 [] _ (by simp)
  rw [hc]
  have hr : ∀ n ws, readK (n + 1) ([] :: ws) = none := fun n ws => by
    unfold readK
    rw [show wordJ [] = none from rfl]
    dsimp only
    unfold leafS
    rw [show wordFl [] = none from rfl]
    dsimp only
    rw [if_neg (by decide), if_neg (fun e => absurd e.1 (by decide))]
    cases setS (ws.headD []) with
    | none => rfl
    | some s => simp [tAt, tUid]
  rw [hr]
theorem key_all {t : List UInt8} {k : Ky} (h : keyI t = some k) : keyI (t ++ [32, 97, 108, 108]) = none := key_more h [97, 108, 108] (by decide)
theorem key_end {t : List UInt8} {k : Ky} (h : keyI t = some k) : keyI (t ++ [32]) = none := key_more h [] (by simp)

/-- The text of a mark. -/
def mtl : Nat → Nat → List UInt8 → List UInt8
  | 0, _, acc => acc
  | f + 1, k, acc => if k = 0 then acc else mtl f (k / 10) (UInt8.ofNat (48 + k % 10) :: acc)
def markT (k : Nat) : List UInt8 := 109 :: mtl k k []
theorem mtl_fuel : ∀ (f g k : Nat) (acc : List UInt8), k ≤ f → k ≤ g → mtl f k acc = mtl g k acc := by
  intro f
  induction f with
  | zero =>
    intro g k acc h1 h2
    obtain rfl : k = 0 := by omega
    cases g <;> simp [mtl]
  | succ f ih =>
    intro g k acc h1 h2
    cases g with
    | zero =>
      obtain rfl : k = 0 := by omega
      simp [mtl]
    | succ g =>
      unfold mtl
      by_cases h0 : k = 0
      · rw [if_pos h0, if_pos h0]
      · rw [if_neg h0, if_neg h0]
        exact ih g (k / 10) _ (by omega) (by omega)
theorem mtl_step (k : Nat) (acc : List UInt8) (h : 0 < k) : mtl k k acc = mtl (k / 10) (k / 10) (UInt8.ofNat (48 + k % 10) :: acc) := by
  obtain ⟨n, rfl⟩ : ∃ n, k = n + 1 := ⟨k - 1, by omega⟩
  conv => lhs; unfold mtl
  rw [if_neg (by omega)]
  exact mtl_fuel _ _ _ _ (by omega) (Nat.le_refl _)
theorem mtl_zero (acc : List UInt8) : mtl 0 0 acc = acc := rfl
theorem mtl_len : ∀ (f k : Nat) (acc : List UInt8), (mtl f k acc).length ≤ f + acc.length := by
  intro f
  induction f with
  | zero => intro k acc; simp [mtl]
  | succ f ih =>
    intro k acc
    unfold mtl
    by_cases h0 : k = 0
    · rw [if_pos h0]; omega
    · rw [if_neg h0]; have := ih (k / 10) (UInt8.ofNat (48 + k % 10) :: acc); rw [List.length_cons] at this; omega
theorem markT_len (k : Nat) : (markT k).length ≤ k + 1 := by
  unfold markT; have := mtl_len k k []; simp at this ⊢; omega

/-- Marked sets and keys, from a number on; how many numbers are used. -/
def markSet : Nat → List (Int × Int) → List (Int × Int)
  | _, [] => []
  | n, _ :: ss => ((n : Int), ((n + 1 : Nat) : Int)) :: markSet (n + 2) ss
mutual
def cntK : Ky → Nat
  | .mk _ _ _ d ks => 3 + 2 * d.length + cntL ks
def cntL : List Ky → Nat
  | [] => 0
  | k :: ks => cntK k + cntL ks
end
mutual
def markK (n : Nat) : Ky → Ky
  | .mk _ _ _ d ks => .mk n ((n + 1 : Nat) : Int) (markT (n + 2)) (markSet (n + 3) d) (markL (n + 3 + 2 * d.length) ks)
def markL (n : Nat) : List Ky → List Ky
  | [] => []
  | k :: ks => markK n k :: markL (n + cntK k) ks
end
theorem markSet_len : ∀ (d : List (Int × Int)) (n : Nat), (markSet n d).length = d.length
  | [], _ => rfl
  | _ :: ss, n => by simp [markSet, markSet_len ss]
theorem markSet_get : ∀ (d : List (Int × Int)) (n j : Nat) (h : j < (markSet n d).length), (markSet n d)[j] = (((n + 2 * j : Nat) : Int), ((n + 2 * j + 1 : Nat) : Int))
  | [], _, _, h => by simp [markSet] at h
  | _ :: ss, n, 0, _ => rfl
  | _ :: ss, n, j + 1, h => by
    simp only [markSet, List.getElem_cons_succ]
    rw [markSet_get ss (n + 2) j (by simpa [markSet] using h)]
    congr 2 <;> omega
theorem markL_len : ∀ (ks : List Ky) (n : Nat), (markL n ks).length = ks.length
  | [], _ => by simp [markL]
  | _ :: ss, n => by simp [markL, markL_len ss]
theorem markL_append : ∀ (as bs : List Ky) (n : Nat), markL n (as ++ bs) = markL n as ++ markL (n + cntL as) bs
  | [], bs, n => by simp [markL, cntL]
  | a :: as, bs, n => by simp [markL, cntL, markL_append as bs, Nat.add_assoc]
theorem cntL_append : ∀ (as bs : List Ky), cntL (as ++ bs) = cntL as + cntL bs
  | [], bs => by simp [cntL]
  | a :: as, bs => by simp [cntL, cntL_append as bs, Nat.add_assoc]
mutual
/-- A valid key has few marks. -/
theorem cntK_le (k : Ky) (h : allK k = true) : cntK k ≤ 20 * nodesK k := by
  match k with
  | .mk a b c d ks =>
    unfold allK at h
    simp only [Bool.and_eq_true] at h
    have h1 := cntL_le ks h.1
    unfold cntK nodesK
    rcases nodeOk_kinds h.2 with ⟨_, _, _, rfl, hn⟩ | ⟨_, _, _, rfl, hn⟩ | ⟨_, _, _, rfl, hn⟩ | ⟨_, _, _, hd, hn⟩ | ⟨_, _, _, rfl, hn⟩ | ⟨_, _, _, rfl, hn⟩
    all_goals first
      | (simp; omega)
      | (have := (setOk_mem hd).2.2; omega)
theorem cntL_le (ks : List Ky) (h : allL ks = true) : cntL ks ≤ 20 * nodesL ks := by
  match ks with
  | [] => simp [cntL]
  | k :: ks =>
    unfold allL at h
    simp only [Bool.and_eq_true] at h
    have h1 := cntK_le k h.1
    have h2 := cntL_le ks h.2
    unfold cntL nodesL; omega
end
end Go.Proofs.YtoleonldkifcbaaGreatDoor
