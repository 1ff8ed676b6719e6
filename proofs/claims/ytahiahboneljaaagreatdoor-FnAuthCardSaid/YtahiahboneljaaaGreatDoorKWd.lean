/- The walks of what receives lines (impl): going back, texts, greetings, plain lines. -/
import Derived.Test.YtahiahboneljaaaGreatDoorKWc
namespace Go.Proofs.YtahiahboneljaaaGreatDoor
open Go.RowKit

/-- The cells of what receives lines. -/
def postC (s : Sb) (tv uv : Value) (dom : List UInt8) : Array Value := #[.int .i64 s.stage, .string (bs s.user), tv, .string (bs s.text), uv, .string (bs dom)]
/-- What receives lines lies at p, made behind w0. -/
structure PostAt (w0 : World) (p : Nat) (w : World) (s : Sb) (us : List Usr) (dom : List UInt8) : Prop where
  kept : Kept [] w0 w
  new : w0.heap.size ≤ p
  dl : dom.length ≤ bigN
  row : ∃ tv uv, w.heap[p]? = some (.cells (postC s tv uv dom) 48 (0, 0)) ∧ w.ownsRow (p + 1) 9 1 tv s.to.length (s.to.map sv) ∧ UsersAt 0 w0 uv us

theorem own_kept {w w' : World} {base : Nat} {e : TypeId} {size : Nat} {v : Value} {n : Nat} {xs : List Value} (h : w.ownsRow base e size v n xs) {bs : List Nat} (k : Kept bs w w') (hb : ∀ b ∈ bs, b < base) : w'.ownsRow base e size v n xs := by
  obtain ⟨h1, h2⟩ := h
  refine ⟨h1, ?_⟩
  rcases h2 with h2 | ⟨g, cap, cur, hv, hg, hh, rest⟩
  · exact .inl h2
  · refine .inr ⟨g, cap, cur, hv, hg, ?_, rest⟩
    exact k.same hh (fun e => by have := hb g e; omega)
theorem own_none (w : World) (base g : Nat) (hg : g = w.heap.size) (h : base ≤ g) : (w.alloc (.cells #[] 9)).ownsRow base 9 1 (.slice (some ⟨g, 0, none⟩) 0 0) 0 [] := by
  subst hg
  exact ⟨rfl, .inr ⟨w.heap.size, 0, #[], rfl, h, new_block w _, by omega, by unfold maxLen; omega, rfl, rfl⟩⟩
theorem PostAt.set {w0 w w1 : World} {p : Nat} {s : Sb} {us : List Usr} {dom : List UInt8} (h : PostAt w0 p w s us dom) (k : Kept [] w0 w1) (i : Nat) (v : Value) : Kept [] w0 (w1.setCell ⟨p, i, none⟩ v) :=
  k.setCell _ _ (fun hl => absurd hl (by have := h.new; dsimp only; omega))

/-- A write into p behind a call that has kept all. -/
theorem PostAt.use {w0 w : World} {p : Nat} {s : Sb} {us : List Usr} {dom : List UInt8} (h : PostAt w0 p w s us dom) :
    ∃ tv uv, w.heap[p]? = some (.cells #[.int .i64 s.stage, .string (bs s.user), tv, .string (bs s.text), uv, .string (bs dom)] 48 (0, 0)) ∧ w.ownsRow (p + 1) 9 1 tv s.to.length (s.to.map sv) ∧ UsersAt 0 w0 uv us ∧
      w.cell? ⟨p, 0, none⟩ = some (.int .i64 s.stage) ∧ w.cell? ⟨p, 1, none⟩ = some (.string (bs s.user)) ∧ w.cell? ⟨p, 2, none⟩ = some tv ∧ w.cell? ⟨p, 3, none⟩ = some (.string (bs s.text)) ∧ w.cell? ⟨p, 4, none⟩ = some uv ∧ w.cell? ⟨p, 5, none⟩ = some (.string (bs dom)) ∧
      (∀ i, w.frozen? ⟨p, i, none⟩ = false) ∧ p < w.heap.size := by
  obtain ⟨tv, uv, hb, ho, hu⟩ := h.row
  exact ⟨tv, uv, hb, ho, hu, by rw [cell_of_block hb]; rfl, by rw [cell_of_block hb]; rfl, by rw [cell_of_block hb]; rfl, by rw [cell_of_block hb]; rfl, by rw [cell_of_block hb]; rfl, by rw [cell_of_block hb]; rfl, fun i => frozen_of_block hb i, lt_of_block hb⟩

theorem goBack_any (w0 w : World) (p : Nat) (s : Sb) (us : List Usr) (dom : List UInt8) (h : PostAt w0 p w s us dom) (_h0 : 0 ≤ s.stage) (_h6 : s.stage ≤ 6) :
    Calls Tryz.prog 69 #[.pointer (some ⟨p, 0, none⟩)] w fun e w' => e = .returned (.tuple #[]) ∧ PostAt w0 p w' ⟨min s.stage 2, s.user, [], []⟩ us dom := by
  obtain ⟨tv, uv, hb, ho, hu, c0, c1, c2, c3, c4, c5, hf, hl⟩ := h.use
  have f0 := hf 0
  have f2 := hf 2
  have f3 := hf 3
  have HB := hid hb
  have HP := hid h
  have HU := hid hu
  clear hb hf h hu ho
  go_enter Tryz.func69, Tryz.ntmps69
  go_wp2
  refine bodyPost_end (v := .tuple #[]) (by simp [results, Tryz.results69, go_sem]) rfl ⟨rfl, ?_⟩
  refine ⟨((HP.out.set (HP.out.set (HP.out.set HP.out.kept 0 _) 2 _) 3 _).alloc _), HP.out.new, HP.out.dl, _, uv, alloc_block (set_of_block (set_of_block (set_of_block HB.out _) _) _) _, own_none _ _ _ (by simp [World.setCell]) (by omega), HU.out⟩

theorem back_min {s : Sb} (h : subOk s = true) : backP s = ⟨min s.stage 2, s.user, [], []⟩ := by
  obtain ⟨h0, h6, hu, -⟩ := subOk_use h
  unfold backP
  split
  · next h2 => rw [Int.min_eq_right h2]
  · next h2 => rw [Int.min_eq_left (by omega), hu (by omega)]

theorem trim_same (l : List UInt8) : Lib.trimPrefix l [46] = trimP l := by
  unfold Lib.trimPrefix Lib.hasPrefix trimP
  cases l with
  | nil => rfl
  | cons b r =>
    by_cases h : b = 46
    · subst h; simp
    · have : ¬ (46 : UInt8) = b := fun e => h e.symm
      simp [h, this]

theorem append_bs (a b : List UInt8) : bs a ++ bs b = bs (a ++ b) := by
  rw [← toList_inj]; simp [bs]

theorem trimDot_any (line : ByteArray) (w : World) : Calls Tryz.prog 70 #[.string line, .string ⟨#[46]⟩] w fun e w' => e = .returned (.string (bs (trimP line.data.toList))) ∧ w' = w := by
  rw [← trim_same]; exact Tryz.strings_TrimPrefix line ⟨#[46]⟩ w
theorem trimP_len (l : List UInt8) : (trimP l).length ≤ l.length := by
  cases l with
  | nil => exact Nat.le_refl _
  | cons b r => show (if b = 46 then r else b :: r).length ≤ _; split <;> simp
theorem cut21 (a t : List UInt8) : (bs a ++ bs t ++ (⟨#[10]⟩ : ByteArray)).extract 0 (min ((a.length : Int) + t.length + 1) 21).toNat = bs ((a ++ t ++ [10]).take 21) := by
  rw [show (⟨#[10]⟩ : ByteArray) = bs [10] from rfl, append_bs, append_bs, extract_bs, bs_toList, List.drop_zero]
  congr 1
  rw [List.take_eq_take_iff]
  simp; omega

theorem data_any (w0 w : World) (p : Nat) (s : Sb) (us : List Usr) (dom : List UInt8) (line : ByteArray) (h : PostAt w0 p w s us dom) (hv : subOk s = true) (hl : line.size ≤ bigN) :
    Calls Tryz.prog 44 #[.pointer (some ⟨p, 0, none⟩), .string line] w fun e w' => e = .returned (.int .i64 (dataP s line.data.toList).2) ∧ PostAt w0 p w' (dataP s line.data.toList).1 us dom := by
  obtain ⟨tv, uv, hb, ho, hu, c0, c1, c2, c3, c4, c5, hf, hpl⟩ := h.use
  obtain ⟨g0, g6, -, -, -, -, -, gx⟩ := subOk_use hv
  have f3 := hf 3
  have HB := hid hb
  have HP := hid h
  have HU := hid hu
  have HO := hid ho
  have HM := hid (back_min hv)
  clear hb hf h hu ho
  by_cases hd : line.data.toList = [46]
  · have hd' : (line.toList == [46]) = true := by rw [str_eq]; simp [hd]
    have hD : dataP s line.data.toList = (⟨min s.stage 2, s.user, [], []⟩, if 20 < s.text.length then 552 else 250) := by unfold dataP; rw [if_pos hd, HM.out]
    have HD := hid hD
    clear hd hD
    by_cases ht : 20 < s.text.length
    · have ht' : (20 : Int) < s.text.length := by omega
      rw [HD.out, if_pos ht]
      go_enter Tryz.func44, Tryz.ntmps44
      go_wp2_with fail
      refine (goBack_any w0 _ p s us dom HP.out g0 g6).mono ?_
      rintro e w1 ⟨rfl, hP⟩
      go_wp2
      go_ret
      exact ⟨rfl, hP⟩
    · have ht' : ¬ (20 : Int) < s.text.length := by omega
      rw [HD.out, if_neg ht]
      go_enter Tryz.func44, Tryz.ntmps44
      go_wp2_with fail
      refine (goBack_any w0 _ p s us dom HP.out g0 g6).mono ?_
      rintro e w1 ⟨rfl, hP⟩
      go_wp2
      go_ret
      exact ⟨rfl, hP⟩
  · have hd' : (line.toList == [46]) = false := by rw [str_eq]; simp [hd]
    have hD : dataP s line.data.toList = (⟨s.stage, s.user, s.to, (s.text ++ trimP line.data.toList ++ [10]).take 21⟩, 0) := by unfold dataP; rw [if_neg hd]
    have HD := hid hD
    clear hd hD HM
    rw [HD.out]
    have hT := trimDot_any line
    have htl : (trimP line.data.toList).length ≤ bigN := Nat.le_trans (trimP_len _) (by simpa using hl)
    generalize trimP line.data.toList = t at hT htl
    have HT := hid hT
    have hs1 : ¬ 9223372036854775807 < (s.text.length : Int) + t.length := by unfold bigN at htl; omega
    have hs2 : ¬ 9223372036854775807 < (s.text.length : Int) + t.length + 1 := by unfold bigN at htl; omega
    clear hT htl hl
    go_enter Tryz.func44, Tryz.ntmps44
    go_wp2
    go_quiet ((go_at_call 70; exact (HT.out _).quiet_of_same))
    go_wp2
    go_ret
    refine ⟨rfl, HP.out.set (HP.out.kept.drewN _) 3 _, HP.out.new, HP.out.dl, tv, uv, ?_, own_kept HO.out (((Kept.refl [p] w).drewN _).setCell _ _ (by simp)) (by simp), HU.out⟩
    rw [cut21]
    exact set_of_blockN HB.out _
end Go.Proofs.YtahiahboneljaaaGreatDoor
namespace Go.Proofs.YtahiahboneljaaaGreatDoor
open Go.RowKit

theorem PostAt.keep {w0 w w' : World} {p : Nat} {s : Sb} {us : List Usr} {dom : List UInt8} (h : PostAt w0 p w s us dom) (k : Kept [] w w') : PostAt w0 p w' s us dom := by
  obtain ⟨tv, uv, hb, ho, hu⟩ := h.row
  exact ⟨h.kept.trans k, h.new, h.dl, tv, uv, k.same hb (by simp), own_kept ho k (by simp), hu⟩
/-- The stage written. -/
theorem PostAt.stage {w0 w : World} {p : Nat} {s : Sb} {us : List Usr} {dom : List UInt8} (h : PostAt w0 p w s us dom) (x : Int) : PostAt w0 p (w.setCell ⟨p, 0, none⟩ (.int .i64 x)) ⟨x, s.user, s.to, s.text⟩ us dom := by
  obtain ⟨tv, uv, hb, ho, hu⟩ := h.row
  exact ⟨h.set h.kept 0 _, h.new, h.dl, tv, uv, set_of_block hb _, own_kept ho ((Kept.refl [p] w).setCell _ _ (by simp)) (by simp), hu⟩
theorem PostAt.named {w0 w : World} {p : Nat} {s : Sb} {us : List Usr} {dom : List UInt8} (h : PostAt w0 p w s us dom) (x : List UInt8) : PostAt w0 p (w.setCell ⟨p, 1, none⟩ (.string (bs x))) ⟨s.stage, x, s.to, s.text⟩ us dom := by
  obtain ⟨tv, uv, hb, ho, hu⟩ := h.row
  exact ⟨h.set h.kept 1 _, h.new, h.dl, tv, uv, set_of_block hb _, own_kept ho ((Kept.refl [p] w).setCell _ _ (by simp)) (by simp), hu⟩
theorem PostAt.same {w0 w : World} {p : Nat} {s s' : Sb} {us : List Usr} {dom : List UInt8} (h : PostAt w0 p w s us dom) (e : s = s') : PostAt w0 p w s' us dom := e ▸ h

theorem hello_back {s : Sb} (h : subOk s = true) : backP ⟨if s.stage = 0 then 1 else s.stage, s.user, s.to, s.text⟩ = ⟨min (if s.stage = 0 then 1 else s.stage) 2, s.user, [], []⟩ := by
  obtain ⟨h0, h6, hu, -⟩ := subOk_use h
  unfold backP
  dsimp only
  by_cases e : s.stage = 0
  · rw [if_pos e]; simp [hu (by omega)]; rfl
  · rw [if_neg e]
    split
    · next h2 => rw [Int.min_eq_right h2]
    · next h2 => rw [Int.min_eq_left (by omega), hu (by omega)]

theorem hello_any (w0 w : World) (p : Nat) (s : Sb) (us : List Usr) (dom : List UInt8) (v : Value) (ws : List (List UInt8)) (h : PostAt w0 p w s us dom) (hv : subOk s = true) (hw : StrsAt 0 w v ws) :
    Calls Tryz.prog 46 #[.pointer (some ⟨p, 0, none⟩), v] w fun e w' => e = .returned (.int .i64 (helloP s ws).2) ∧ PostAt w0 p w' (helloP s ws).1 us dom := by
  obtain ⟨g0, g6, -⟩ := subOk_use hv
  obtain ⟨a, cap, b, off, rfl, hl, hcap, ha, hc⟩ := hw
  have HP := hid h
  have HM := hid (hello_back hv)
  clear h
  by_cases h2 : ws.length = 2
  · obtain ⟨rfl, -, hbw⟩ := ha (by omega)
    obtain ⟨hc1, hs1⟩ := hc 1 (by omega)
    have hcap1 : (1 : Int) < ws.length := by omega
    have hcap2 : 1 < cap := by omega
    have hg : ws.getD 1 [] = ws[1] := by simp [List.getD, List.getElem?_eq_getElem (by omega : 1 < ws.length)]
    have hlen : (ws.length : Int) = 2 := by omega
    have HC := hid hc
    clear hc ha
    cases hd : isDomain ws[1] with
    | false =>
      have hr : helloP s ws = (s, 501) := by unfold helloP; rw [if_neg (by rw [hg, hd]; simp)]
      rw [hr]
      clear hr hg
      go_enter Tryz.func46, Tryz.ntmps46
      go_wp2_with fail
      refine (iDomainValid_any (bs ws[1]) _ (by rw [bs_size]; exact hs1)).mono ?_
      rintro e w1 ⟨rfl, hK⟩
      rw [bs_toList, hd]
      go_wp2
      go_ret
      exact ⟨rfl, HP.out.keep hK⟩
    | true =>
      have hr : helloP s ws = (⟨min (if s.stage = 0 then 1 else s.stage) 2, s.user, [], []⟩, 250) := by unfold helloP; rw [if_pos ⟨h2, by rw [hg, hd]⟩, HM.out]
      rw [hr]
      clear hr hg HM
      by_cases hst : s.stage = 0
      · rw [if_pos hst]
        go_enter Tryz.func46, Tryz.ntmps46
        go_wp2_with fail
        refine (iDomainValid_any (bs ws[1]) _ (by rw [bs_size]; exact hs1)).mono ?_
        rintro e w1 ⟨rfl, hK⟩
        rw [bs_toList, hd]
        have hP1 := HP.out.keep hK
        obtain ⟨tv, uv, -, -, -, c0, -, -, -, -, -, hf, hpl⟩ := hP1.use
        have f0 := hf 0
        have HP1 := hid hP1
        rw [hst] at c0
        clear hf hP1 hK
        go_wp2_with fail
        refine (goBack_any w0 _ p _ us dom (HP1.out.stage 1) (by simp) (by simp)).mono ?_
        rintro e w2 ⟨rfl, hP2⟩
        go_wp2
        go_ret
        exact ⟨rfl, hP2⟩
      · rw [if_neg hst]
        go_enter Tryz.func46, Tryz.ntmps46
        go_wp2_with fail
        refine (iDomainValid_any (bs ws[1]) _ (by rw [bs_size]; exact hs1)).mono ?_
        rintro e w1 ⟨rfl, hK⟩
        rw [bs_toList, hd]
        have hP1 := HP.out.keep hK
        obtain ⟨tv, uv, -, -, -, c0, -, -, -, -, -, hf, hpl⟩ := hP1.use
        have f0 := hf 0
        have HP1 := hid hP1
        clear hf hP1 hK
        go_wp2_with fail
        refine (goBack_any w0 _ p _ us dom HP1.out g0 g6).mono ?_
        rintro e w2 ⟨rfl, hP2⟩
        go_wp2
        go_ret
        exact ⟨rfl, hP2⟩
  · have hr : helloP s ws = (s, 501) := by unfold helloP; rw [if_neg (by intro e; exact h2 e.1)]
    have hlen : ¬ (ws.length : Int) = 2 := by omega
    rw [hr]
    clear hr h2 hc ha
    go_enter Tryz.func46, Tryz.ntmps46
    go_wp2
    go_ret
    exact ⟨rfl, HP.out⟩

theorem plain_any (w0 w : World) (p : Nat) (s : Sb) (us : List Usr) (dom : List UInt8) (line : ByteArray) (h : PostAt w0 p w s us dom) (hv : subOk s = true) :
    Calls Tryz.prog 50 #[.pointer (some ⟨p, 0, none⟩), .string line] w fun e w' => e = .returned (.int .i64 (restP s line.data.toList).2) ∧ PostAt w0 p w' (restP s line.data.toList).1 us dom := by
  obtain ⟨g0, g6, -⟩ := subOk_use hv
  obtain ⟨tv, uv, hb, ho, hu, c0, c1, c2, c3, -, -, hf, hpl⟩ := h.use
  have f0 := hf 0
  have f1 := hf 1
  have f2 := hf 2
  have f3 := hf 3
  have HP := hid h
  have HB := hid hb
  have HU := hid hu
  have HM := hid (back_min hv)
  have e1 : (line.toList == [68, 65, 84, 65]) = decide (line.data.toList = [68, 65, 84, 65]) := by rw [str_eq]
  have e2 : (line.toList == [82, 83, 69, 84]) = decide (line.data.toList = [82, 83, 69, 84]) := by rw [str_eq]
  have e3 : (line.toList == [78, 79, 79, 80]) = decide (line.data.toList = [78, 79, 79, 80]) := by rw [str_eq]
  have e4 : (line.toList == [81, 85, 73, 84]) = decide (line.data.toList = [81, 85, 73, 84]) := by rw [str_eq]
  clear h hf hb hu ho
  by_cases h1 : line.data.toList = [68, 65, 84, 65]
  · rw [decide_eq_true h1] at e1
    by_cases hst : s.stage = 4
    · have hr : restP s line.data.toList = (⟨5, s.user, s.to, s.text⟩, 354) := by unfold restP; rw [if_pos h1, if_neg (by omega)]
      rw [hr]
      clear hr e2 e3 e4 h1
      rw [hst] at c0
      go_enter Tryz.func50, Tryz.ntmps50
      go_wp2
      go_ret
      exact ⟨rfl, HP.out.stage 5⟩
    · have hr : restP s line.data.toList = (s, 503) := by unfold restP; rw [if_pos h1, if_pos hst]
      rw [hr]
      clear hr e2 e3 e4 h1
      go_enter Tryz.func50, Tryz.ntmps50
      go_wp2
      go_ret
      exact ⟨rfl, HP.out⟩
  · rw [decide_eq_false h1] at e1
    by_cases h2 : line.data.toList = [82, 83, 69, 84]
    · rw [decide_eq_true h2] at e2
      have hr : restP s line.data.toList = (⟨min s.stage 2, s.user, [], []⟩, 250) := by unfold restP; rw [if_neg h1, if_pos h2, HM.out]
      rw [hr]
      clear hr e3 e4 h1 h2
      go_enter Tryz.func50, Tryz.ntmps50
      go_wp2_with fail
      refine (goBack_any w0 _ p s us dom HP.out g0 g6).mono ?_
      rintro e w1 ⟨rfl, hP⟩
      go_wp2
      go_ret
      exact ⟨rfl, hP⟩
    · rw [decide_eq_false h2] at e2
      by_cases h3 : line.data.toList = [78, 79, 79, 80]
      · rw [decide_eq_true h3] at e3
        have hr : restP s line.data.toList = (s, 250) := by unfold restP; rw [if_neg h1, if_neg h2, if_pos h3]
        rw [hr]
        clear hr e4 h1 h2 h3
        go_enter Tryz.func50, Tryz.ntmps50
        go_wp2
        go_ret
        exact ⟨rfl, HP.out⟩
      · rw [decide_eq_false h3] at e3
        by_cases h4 : line.data.toList = [81, 85, 73, 84]
        · rw [decide_eq_true h4] at e4
          have hr : restP s line.data.toList = (⟨6, [], [], []⟩, 221) := by unfold restP; rw [if_neg h1, if_neg h2, if_neg h3, if_pos h4]
          rw [hr]
          clear hr h1 h2 h3 h4
          go_enter Tryz.func50, Tryz.ntmps50
          go_wp2
          go_ret
          refine ⟨rfl, HP.out.set (HP.out.set (HP.out.set (HP.out.set HP.out.kept 0 _) 1 _) 2 _) 3 _, HP.out.new, HP.out.dl, .slice none 0 0, uv, set_of_block (set_of_block (set_of_block (set_of_block HB.out _) _) _) _, ⟨rfl, .inl ⟨rfl, rfl⟩⟩, HU.out⟩
        · rw [decide_eq_false h4] at e4
          have hr : restP s line.data.toList = (s, 500) := by unfold restP; rw [if_neg h1, if_neg h2, if_neg h3, if_neg h4]
          rw [hr]
          clear hr h1 h2 h3 h4
          go_enter Tryz.func50, Tryz.ntmps50
          go_wp2
          go_ret
          exact ⟨rfl, HP.out⟩
end Go.Proofs.YtahiahboneljaaaGreatDoor
