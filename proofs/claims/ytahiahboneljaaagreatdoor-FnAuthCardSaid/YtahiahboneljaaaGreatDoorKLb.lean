/- The plain law: a user of valid users proves the password. -/
import Derived.Test.YtahiahboneljaaaGreatDoorKLa
namespace Go.Proofs.YtahiahboneljaaaGreatDoor
open Go

theorem blt_trans {a b c : List UInt8} (h1 : Op.bytesLess a b = true) (h2 : Op.bytesLess b c = true) : Op.bytesLess a c = true := by
  induction a generalizing b c with
  | nil =>
    cases b with
    | nil => simp [Op.bytesLess] at h1
    | cons y s => cases c with
      | nil => simp [Op.bytesLess] at h2
      | cons z t => rfl
  | cons x r ih =>
    cases b with
    | nil => simp [Op.bytesLess] at h1
    | cons y s =>
      cases c with
      | nil => simp [Op.bytesLess] at h2
      | cons z t =>
        simp only [Op.bytesLess, Bool.or_eq_true, Bool.and_eq_true, decide_eq_true_eq, beq_iff_eq] at h1 h2 ⊢
        rcases h1 with h1 | ⟨e1, h1⟩
        · rcases h2 with h2 | ⟨e2, h2⟩
          · exact .inl (UInt8.lt_trans h1 h2)
          · subst e2; exact .inl h1
        · subst e1
          rcases h2 with h2 | ⟨e2, h2⟩
          · exact .inl h2
          · exact .inr ⟨e2, ih h1 h2⟩

theorem asc_gt {us : List Usr} {p : List UInt8} (h : ascOk p us = true) : ∀ u ∈ us, Op.bytesLess p u.name = true := by
  induction us generalizing p with
  | nil => simp
  | cons v r ih =>
    simp only [ascOk, Bool.and_eq_true] at h
    intro u hu
    rcases List.mem_cons.1 hu with rfl | hu
    · exact h.1.2
    · exact blt_trans h.1.2 (ih h.2 u hu)
theorem asc_find {us : List Usr} {p : List UInt8} (h : ascOk p us = true) (u : Usr) (hu : u ∈ us) : us.find? (·.name == u.name) = some u := by
  induction us generalizing p with
  | nil => cases hu
  | cons v r ih =>
    simp only [ascOk, Bool.and_eq_true] at h
    rcases List.mem_cons.1 hu with rfl | hu
    · simp
    · have hlt := asc_gt h.2 u hu
      have hne : (v.name == u.name) = false := by
        rw [beq_eq_false_iff_ne]; intro e; rw [e, blt_irrefl] at hlt; cases hlt
      rw [List.find?_cons, hne]
      exact ih h.2 hu
theorem asc_ok {us : List Usr} {p : List UInt8} (h : ascOk p us = true) : ∀ u ∈ us, usrOk u = true := by
  induction us generalizing p with
  | nil => simp
  | cons v r ih =>
    simp only [ascOk, Bool.and_eq_true] at h
    intro u hu
    rcases List.mem_cons.1 hu with rfl | hu
    · exact h.1.1
    · exact ih h.2 u hu
theorem nm_free {l : List UInt8} (h : isName l = true) (c : UInt8) (hc : nmB c = false) : c ∉ l := by
  unfold isName at h
  simp only [Bool.and_eq_true, List.all_eq_true] at h
  intro hm
  rw [h.2 c hm] at hc; cases hc
theorem parse_make {u p : List UInt8} (hu : isName u = true) (hp : isName p = true) : parseP (0 :: (u ++ 0 :: p)) = some (u, p) := by
  have e0 : cutB 0 (0 :: (u ++ 0 :: p)) = [] :: cutB 0 (u ++ 0 :: p) := by show (if (0 : UInt8) = 0 then _ else _) = _; rw [if_pos rfl]
  unfold parseP
  rw [e0, cutB_free _ _ _ (nm_free hu 0 (by decide)), cutB_none _ _ (nm_free hp 0 (by decide))]
  dsimp only
  rw [if_pos ⟨rfl, hu, hp⟩]
theorem sgn_ne (n : Nat) (h : n < 64) : sgn n ≠ 32 := by
  unfold sgn
  split
  · intro e; have := congrArg UInt8.toNat e; simp at this; omega
  · split
    · intro e; have := congrArg UInt8.toNat e; simp at this; omega
    · split
      · intro e; have := congrArg UInt8.toNat e; simp at this; omega
      · split <;> decide
theorem four_free (g : List UInt8) : (32 : UInt8) ∉ four g := by
  match g with
  | [] => simp [four]
  | [a] =>
    have ha := a.toNat_lt
    simp only [four, List.mem_cons, List.mem_nil_iff, or_false, not_or]
    exact ⟨(sgn_ne _ (by omega)).symm, (sgn_ne _ (by omega)).symm, by decide, by decide⟩
  | [a, b] =>
    have ha := a.toNat_lt
    have hb := b.toNat_lt
    simp only [four, List.mem_cons, List.mem_nil_iff, or_false, not_or]
    exact ⟨(sgn_ne _ (by omega)).symm, (sgn_ne _ (by omega)).symm, (sgn_ne _ (by omega)).symm, by decide⟩
  | a :: b :: c :: _ =>
    have ha := a.toNat_lt
    have hb := b.toNat_lt
    have hc := c.toNat_lt
    simp only [four, List.mem_cons, List.mem_nil_iff, or_false, not_or]
    exact ⟨(sgn_ne _ (by omega)).symm, (sgn_ne _ (by omega)).symm, (sgn_ne _ (by omega)).symm, (sgn_ne _ (by omega)).symm⟩
theorem enc_free (l : List UInt8) : (32 : UInt8) ∉ enc l := by
  unfold enc
  intro h
  obtain ⟨g, -, hg⟩ := List.mem_flatMap.1 h
  exact four_free g hg
theorem nms_names {l : List (List UInt8)} {s : List (List UInt8)} (h : nmsOk s l = true) : ∀ x ∈ l, isName x = true := by
  induction l generalizing s with
  | nil => simp
  | cons y r ih =>
    simp only [nmsOk, Bool.and_eq_true] at h
    intro x hx
    rcases List.mem_cons.1 hx with rfl | hx
    · exact h.1.1
    · exact ih h.2 x hx
theorem sub_names {s : Sb} (h : subOk s = true) : ∀ x ∈ s.to, x ≠ [] := by
  have key : s.to = [] ∨ rcvOk s.to = true := by
    obtain ⟨h0, h6, -, -, ht, -⟩ := subOk_use h
    by_cases h4 : s.stage = 4
    · obtain ⟨st, u, t, x⟩ := s; dsimp only at h4; subst h4; exact .inr (subOk_4.1 h).2.1
    · by_cases h5 : s.stage = 5
      · obtain ⟨st, u, t, x⟩ := s; dsimp only at h5; subst h5; exact .inr (subOk_5.1 h).2.1
      · exact .inl (ht h4 h5)
  rcases key with e | e
  · rw [e]; simp
  · unfold rcvOk at e
    simp only [Bool.and_eq_true] at e
    intro x hx hn
    have := nms_names e.2 x hx
    rw [hn] at this; cases this
/-- A submission in memory stands where a block of four cells without a text is written. -/
theorem SubAt.keptZ {lo p : Nat} {w w' : World} {v : Value} {s : Sb} {T : TypeId} (h : SubAt lo w v s) (hn : ∀ x ∈ s.to, x ≠ []) (hp : w.heap[p]? = some (.cells #[.int .i64 0, .string ⟨#[]⟩, .slice none 0 0, .string ⟨#[]⟩] T (0, 0))) (k : Kept [p] w w') : SubAt lo w' v s := by
  obtain ⟨tv, h1, ⟨a, cap, b, off, hv, hl, hc, ha, hcl⟩, h3, h4⟩ := h
  refine ⟨tv, h1, ⟨a, cap, b, off, hv, hl, hc, fun h0 => ⟨(ha h0).1, (ha h0).2.1, Nat.lt_of_lt_of_le (ha h0).2.2 k.size⟩, fun j hj => ?_⟩, h3, h4⟩
  obtain ⟨c0, c1⟩ := hcl j hj
  refine ⟨k.cell_some c0 (fun e => ?_), c1⟩
  have e' : b = p := by simpa using e
  subst e'
  have hne := hn _ (List.getElem_mem hj)
  rw [cell_of_block hp] at c0
  have hz : ∀ q : List UInt8, Value.string (⟨#[]⟩ : ByteArray) = .string (bs q) → q = [] := fun q hq => by injection hq with hq; exact (bs_inj (a := [])).1 hq |>.symm
  rcases (by omega : off + j = 0 ∨ off + j = 1 ∨ off + j = 2 ∨ off + j = 3 ∨ 4 ≤ off + j) with h | h | h | h | h
  · rw [h] at c0; simp at c0
  · rw [h] at c0; exact hne (hz _ (Option.some.inj c0))
  · rw [h] at c0; simp at c0
  · rw [h] at c0; exact hne (hz _ (Option.some.inj c0))
  · rw [Array.getElem?_eq_none (by simpa using h)] at c0; cases c0
/-- "AUTH PLAIN " -/
def authL : List UInt8 := [65, 85, 84, 72, 32, 80, 76, 65, 73, 78, 32]
theorem cut_auth (t : List UInt8) (ht : (32 : UInt8) ∉ t) : cutB 32 (authL ++ t) = [[65, 85, 84, 72], plainW, t] := by
  have e : authL ++ t = [65, 85, 84, 72] ++ 32 :: ([80, 76, 65, 73, 78] ++ 32 :: t) := rfl
  rw [e, cutB_free _ _ _ (by decide), cutB_free _ _ _ (by decide), cutB_none _ _ ht]; rfl
theorem ln_auth {s : Sb} {us : List Usr} {d : List UInt8} (h : opn s = true) (hu : usersOk us = true) (u : Usr) (hm : u ∈ us) :
    lineP s us d (authL ++ makeP u.name u.pass) = if s.stage ≠ 1 then (s, 503) else (⟨2, u.name, [], []⟩, 235) := by
  have hasc : ascOk [] us = true := by unfold usersOk at hu; simp only [Bool.and_eq_true] at hu; exact hu.2
  have hok := asc_ok hasc u hm
  have hn : isName u.name = true := by unfold usrOk at hok; simp only [Bool.and_eq_true] at hok; exact hok.1.1.1.1
  have hp : isName u.pass = true := by unfold usrOk at hok; simp only [Bool.and_eq_true] at hok; exact hok.1.1.2
  have hmk : makeP u.name u.pass = enc (0 :: (u.name ++ 0 :: u.pass)) := by unfold makeP; rw [if_pos ⟨hn, hp⟩]
  have l1 := isName_len hn
  have l2 := isName_len hp
  have hd : dec (makeP u.name u.pass) = some (0 :: (u.name ++ 0 :: u.pass)) := dec_some hmk.symm (by simp; omega)
  have hpl : plainU us (makeP u.name u.pass) = some u.name := by
    unfold plainU plainP
    rw [hd]
    show ((parseP _).bind _) = _
    rw [parse_make hn hp]
    show (if usrProve us u.name u.pass = true then some u.name else none) = some u.name
    rw [if_pos]
    unfold usrProve usrFind
    rw [hu, asc_find hasc u hm]; simp
  rw [ln_open h, cut_auth _ (by rw [hmk]; exact enc_free _)]
  have hg : [[65, 85, 84, 72], plainW, makeP u.name u.pass].getD 0 [] = [65, 85, 84, 72] := rfl
  rw [hg, if_neg (by decide), if_pos rfl]
  unfold authP
  by_cases h1 : s.stage ≠ 1
  · rw [if_pos h1, if_pos h1]
  · rw [if_neg h1, if_neg h1]
    rw [if_neg (by simp)]
    show (match plainU us (makeP u.name u.pass) with | none => (s, (535 : Int)) | some n => (⟨2, n, [], []⟩, 235)) = _
    rw [hpl]
end Go.Proofs.YtahiahboneljaaaGreatDoor
