/- The walks of the draws: submissions, and all arguments of a line. -/
import Derived.Test.YtahiahboneljaaaGreatDoorKDc
namespace Go.Proofs.YtahiahboneljaaaGreatDoor
open Go.RowKit

theorem StrsAt.keptR {lo rb N : Nat} {w w' : World} {v : Value} {L : List (List UInt8)} (h : StrsAt lo w v L) (hr : RdAt w rb N) (k : Kept [rb] w w') : StrsAt lo w' v L := by
  obtain ⟨a, cap, b, off, hv, hl, hc, ha, hcl⟩ := h
  obtain ⟨ra, rcap, rb', roff, q, xs, hb, -⟩ := hr
  refine ⟨a, cap, b, off, hv, hl, hc, fun h0 => ⟨(ha h0).1, (ha h0).2.1, Nat.lt_of_lt_of_le (ha h0).2.2 k.size⟩, fun j hj => ?_⟩
  obtain ⟨c0, c1⟩ := hcl j hj
  refine ⟨k.cell_some c0 (fun e => ?_), c1⟩
  have e' : b = rb := by simpa using e
  subst e'
  rw [cell_of_block hb] at c0
  rcases (by omega : off + j = 0 ∨ off + j = 1 ∨ 2 ≤ off + j) with h | h | h
  · rw [h] at c0; simp at c0
  · rw [h] at c0; simp at c0
  · rw [Array.getElem?_eq_none (by simpa using h)] at c0; cases c0
theorem SubAt.keptR {lo rb N : Nat} {w w' : World} {v : Value} {s : Sb} (h : SubAt lo w v s) (hr : RdAt w rb N) (k : Kept [rb] w w') : SubAt lo w' v s := by
  obtain ⟨tv, h1, h2, h3, h4⟩ := h
  exact ⟨tv, h1, h2.keptR hr k, h3, h4⟩

theorem UsersAt.low {lo lo' : Nat} {w : World} {v : Value} {us : List Usr} (h : UsersAt lo w v us) (hl : lo' ≤ lo) : UsersAt lo' w v us := by
  obtain ⟨a, cap, b, off, hv, hn, ha, hc⟩ := h
  exact ⟨a, cap, b, off, hv, hn, fun h0 => ⟨(ha h0).1, Nat.le_trans hl (ha h0).2.1, (ha h0).2.2⟩, hc⟩

/-- What a draw of a submission hands back. -/
def SubD (rb N : Nat) (w : World) (e : Ending) (w' : World) : Prop :=
  ∃ v, ∃ s : Sb, e = .returned v ∧ SubAt w.heap.size w' v s ∧ s.user.length ≤ 40 ∧ Kept [rb] w w' ∧ RdAt w' rb N

/-- A submission that is being drawn lies behind the third block made; the result's block is the first. -/
def SU (w0 : World) (rb M : Nat) (w : World) (s : Sb) (ta : Option Addr) (tcap : Nat) : Prop :=
  w.heap[w0.heap.size + 1 + 1]? = some (.cells #[.int .i64 s.stage, .string (bs s.user), .slice ta s.to.length tcap, .string (bs s.text)] 25 (0, 0)) ∧ w.heap[w0.heap.size]? = some (.cells #[.int .i64 0, .string ⟨#[]⟩, .slice none 0 0, .string ⟨#[]⟩] 25 (0, 0)) ∧
    StrsAt (w0.heap.size + 3) w (.slice ta s.to.length tcap) s.to ∧ Kept [rb] w0 w ∧ RdAt w rb M ∧ rb < w0.heap.size
theorem SU.on {w0 : World} {rb M M' : Nat} {w w' : World} {s : Sb} {ta : Option Addr} {tcap : Nat} (h : SU w0 rb M w s ta tcap) (k : Kept [rb] w w') (r : RdAt w' rb M') : SU w0 rb M' w' s ta tcap := by
  obtain ⟨h1, h2, h3, h4, h5, h6⟩ := h
  exact ⟨k.same h1 (by simp; omega), k.same h2 (by simp; omega), h3.kept k (by simp; omega), h4.trans k, r, h6⟩
theorem SU.on0 {w0 : World} {rb M : Nat} {w w' : World} {s : Sb} {ta : Option Addr} {tcap : Nat} (h : SU w0 rb M w s ta tcap) (k : Kept [] w w') : SU w0 rb M w' s ta tcap := h.on k.nil (h.2.2.2.2.1.kept k)
theorem SU.cell {w0 : World} {rb M : Nat} {w : World} {s : Sb} {ta : Option Addr} {tcap : Nat} (h : SU w0 rb M w s ta tcap) (i : Nat) (v : Value) (s2 : Sb) (ta2 : Option Addr) (c2 : Nat)
    (hc : (#[.int .i64 s.stage, .string (bs s.user), .slice ta s.to.length tcap, .string (bs s.text)] : Array Value).setIfInBounds i v = #[.int .i64 s2.stage, .string (bs s2.user), .slice ta2 s2.to.length c2, .string (bs s2.text)])
    (hS : StrsAt (w0.heap.size + 3) w (.slice ta2 s2.to.length c2) s2.to) : SU w0 rb M (w.setCell ⟨w0.heap.size + 1 + 1, i, none⟩ v) s2 ta2 c2 := by
  obtain ⟨h1, h2, h3, h4, h5, h6⟩ := h
  refine ⟨?_, set_other h2 _ _ (by dsimp only; omega), hS.kept (bs := [w0.heap.size + 1 + 1]) ((Kept.refl _ _).setCell _ _ (by simp)) (by simp), h4.setCell _ _ (by intro hh; dsimp only at hh; omega), h5.keptB (cs := [w0.heap.size + 1 + 1]) ((Kept.refl _ _).setCell _ _ (by simp)) (by simp; omega), h6⟩
  have := set_of_block h1 (i := i) v
  rw [hc] at this; exact this
theorem SU.line {w0 : World} {rb M M' : Nat} {w w' : World} {s s2 : Sb} {ta ta2 : Option Addr} {tcap c2 : Nat} (h : SU w0 rb M w s ta tcap) (k : Kept [rb] w w') (r : RdAt w' rb M') (hS : StrsAt (w0.heap.size + 3) w' (.slice ta2 s2.to.length c2) s2.to) :
    SU w0 rb M' ((((w'.setCell ⟨w0.heap.size + 1 + 1, 0, none⟩ (.int .i64 s2.stage)).setCell ⟨w0.heap.size + 1 + 1, 1, none⟩ (.string (bs s2.user))).setCell ⟨w0.heap.size + 1 + 1, 2, none⟩ (.slice ta2 s2.to.length c2)).setCell ⟨w0.heap.size + 1 + 1, 3, none⟩ (.string (bs s2.text))) s2 ta2 c2 := by
  have h0 := h.on k r
  have h1 := h0.cell 0 (.int .i64 s2.stage) ⟨s2.stage, s.user, s.to, s.text⟩ ta tcap (by simp) h0.2.2.1
  have h2 := h1.cell 1 (.string (bs s2.user)) ⟨s2.stage, s2.user, s.to, s.text⟩ ta tcap (by simp) h1.2.2.1
  have k2 : Kept [w0.heap.size + 1 + 1] w' ((w'.setCell ⟨w0.heap.size + 1 + 1, 0, none⟩ (.int .i64 s2.stage)).setCell ⟨w0.heap.size + 1 + 1, 1, none⟩ (.string (bs s2.user))) := by
    repeat' first | exact Kept.refl _ _ | refine Kept.setCell ?_ _ _ (by simp)
  have h3 := h2.cell 2 (.slice ta2 s2.to.length c2) ⟨s2.stage, s2.user, s2.to, s.text⟩ ta2 c2 (by simp) (hS.kept k2 (by simp))
  exact h3.cell 3 (.string (bs s2.text)) s2 ta2 c2 (by simp) h3.2.2.1
theorem subLine_ok {s : Sb} {us : List Usr} {d l : List UInt8} (h : subOk s = true) : subOk (subLineP s us d l).1 = true := by
  unfold subLineP
  split
  · exact line_ok h
  · rfl
theorem SU.sub {w0 : World} {rb M : Nat} {w : World} {s : Sb} {ta : Option Addr} {tcap : Nat} (h : SU w0 rb M w s ta tcap) (hu : s.user.length ≤ bigN) (ht : s.text.length ≤ bigN) :
    SubAt 0 w (.agg #[.int .i64 s.stage, .string (bs s.user), .slice ta s.to.length tcap, .string (bs s.text)]) s := ⟨_, rfl, h.2.2.1.lo, hu, ht⟩
theorem SU.fin {w0 : World} {rb M N : Nat} {w : World} {s : Sb} {ta : Option Addr} {tcap : Nat} (h : SU w0 rb M w s ta tcap) (hu : s.user.length ≤ 40) (ht : s.text.length ≤ 3000) (hM : M ≤ N) (x0 x1 x2 x3 : Value) :
    SubD rb N w0 (.returned (.agg #[.int .i64 s.stage, .string (bs s.user), .slice ta s.to.length tcap, .string (bs s.text)])) ((((w.setCell ⟨w0.heap.size, 0, none⟩ x0).setCell ⟨w0.heap.size, 1, none⟩ x1).setCell ⟨w0.heap.size, 2, none⟩ x2).setCell ⟨w0.heap.size, 3, none⟩ x3) := by
  obtain ⟨h1, h2, h3, h4, h5, h6⟩ := h
  have k : Kept [w0.heap.size] w ((((w.setCell ⟨w0.heap.size, 0, none⟩ x0).setCell ⟨w0.heap.size, 1, none⟩ x1).setCell ⟨w0.heap.size, 2, none⟩ x2).setCell ⟨w0.heap.size, 3, none⟩ x3) := by
    repeat' first | exact Kept.refl _ _ | refine Kept.setCell ?_ _ _ (by simp)
  exact ⟨_, s, rfl, ⟨_, rfl, (h3.kept k (by simp)).low (by omega), by unfold bigN; omega, by unfold bigN; omega⟩, hu, h4.trans' k (fun _ e _ => e) (by simp), (h5.keptB k (by simp; omega)).mono hM⟩
theorem SU.start {w : World} {rb N : Nat} (h : RdAt w rb N) : SU w rb N (((w.alloc (.cells #[.int .i64 0, .string ⟨#[]⟩, .slice none 0 0, .string ⟨#[]⟩] 25)).alloc (.cells #[] 9)).alloc (.cells #[.int .i64 0, .string ⟨#[]⟩, .slice (some ⟨w.heap.size + 1, 0, none⟩) 0 0, .string ⟨#[]⟩] 25)) ⟨0, [], [], []⟩ (some ⟨w.heap.size + 1, 0, none⟩) 0 := by
  have hlt := h.lt
  have hb := new_block ((w.alloc (.cells #[.int .i64 0, .string ⟨#[]⟩, .slice none 0 0, .string ⟨#[]⟩] 25)).alloc (.cells #[] 9)) (.cells #[.int .i64 0, .string ⟨#[]⟩, .slice (some ⟨w.heap.size + 1, 0, none⟩) 0 0, .string ⟨#[]⟩] 25)
  have e : ((w.alloc (.cells #[.int .i64 0, .string ⟨#[]⟩, .slice none 0 0, .string ⟨#[]⟩] 25)).alloc (.cells #[] 9)).heap.size = w.heap.size + 2 := by simp
  rw [e] at hb
  exact ⟨hb, alloc_block (alloc_block (new_block w _) _) _, strs_noneN _ _ _ _, (((Kept.refl _ _).alloc _).alloc _).alloc _, h.kept ((((Kept.refl _ _).alloc _).alloc _).alloc _), hlt⟩

theorem many_y (k : Nat) (w : World) (hk : k < 4) : Calls Tryz.prog 35 #[.string ⟨#[121]⟩, .int .i64 (19 + (k : Int))] w fun e w' => (∃ l : List UInt8, e = .returned (.string (bs l)) ∧ l.length ≤ 3000) ∧ Kept [] w w' := by
  have := l6Many_any [121] (19 + k) w (by simp; omega) (by simp) (by omega)
  rwa [show (((19 + k : Nat)) : Int) = 19 + (k : Int) by omega] at this

theorem calls_world {P : Program} {f : FuncId} {args : Array Value} {w : World} {Post : Ending → World → Prop} (C : World → Prop) (hC : C w) (h : ∀ W, C W → Calls P f args W Post) : Calls P f args w Post := h w hC

set_option maxHeartbeats 8000000 in
set_option maxRecDepth 100000 in
theorem l92Sub_any (rb N : Nat) (uv : Value) (us : List Usr) (w : World) (h : RdAt w rb N) (hN : N ≤ 999000) (hu : UsersAt (rb + 1) w uv us) :
    Calls Tryz.prog 19 #[.pointer (some ⟨rb, 0, none⟩), uv] w (SubD rb (N + 300) w) := by
  obtain ⟨ua, ucap, rfl⟩ := users_form hu
  have HS0 := hid (SU.start h)
  have HP := hid (fun M (hM : M ≤ 300) n w h (hn : n ≤ 1000) => pick_any rb (N + M) n w h (by omega) (by omega))
  have HNM := hid (fun M (hM : M ≤ 300) w h => l91Name_any rb (N + M) w h (by omega))
  have HTO := hid (fun M (hM : M ≤ 280) w h => l92To_any rb (N + M) w h (by omega))
  have HUV := hid (fun w' (k : Kept [rb] w w') => sUsersValid_any (rb + 1) (.slice ua us.length ucap) us w' (hu.kept k (by simp)))
  have HU := hid (fun w' (k : Kept [rb] w w') => hu.kept k (by simp))
  have HN9 := hid hN
  clear h hN hu
  go_enter Tryz.func19, Tryz.ntmps19
  go_wp2_with fail
  refine calls_world (fun W => SU w rb N W ⟨0, [], [], []⟩ (some ⟨w.heap.size + 1, 0, none⟩) 0) HS0.out ?_
  intro W hS
  have HSW := hid hS
  clear HS0 hS
  refine (HP.out 0 (by omega) 14 _ HSW.out.2.2.2.2.1 (by omega)).mono ?_
  rintro e w1 ⟨x, rfl, x0, x1, -, hK, hR⟩
  have HS1 := hid (HSW.out.on hK hR)
  have hx := x1 (by omega)
  obtain ⟨n, rfl⟩ := Int.eq_ofNat_of_zero_le x0
  have hn : n < 14 := by omega
  clear hK hR HSW x1 hx x0
  cases huo : usersOk us with
  | false =>
    rw [huo] at HUV
    have HUO := hid huo
    clear huo
    go_wp2_with fail
    go_loopg [7] 14 (fun m i wr => ∃ (k : Nat) (s : Sb) (ta : Option Addr) (tcap : Nat), m = 14 - k ∧ k ≤ 13 ∧ i = .int .i64 k ∧ subOk s = true ∧ SU w rb (N + 1 + 10 * k) wr s ta tcap)
    case atStart => exact ⟨0, ⟨0, [], [], []⟩, some ⟨w.heap.size + 1, 0, none⟩, 0, rfl, by omega, rfl, rfl, HS1.out⟩
    case round =>
      obtain ⟨k, s, ta, tcap, hm, hk, rfl, hok, hS⟩ := hrel
      have HM := hid hm
      have HOK := hid hok
      have HS := hid hS
      have HB := hid (show s.user.length ≤ 8 ∧ s.text.length ≤ 21 from ⟨(subOk_use hok).2.2.2.2.2.1, (subOk_use hok).2.2.2.2.2.2.2⟩)
      clear hm hok hS HS1
      by_cases hlt : k < n
      · have hlt' : (k : Int) < n := by omega
        go_wp2_with fail
        refine (HUV.out _ HS.out.2.2.2.1).mono ?_
        rintro e w0 ⟨rfl, hK⟩
        have HS0 := hid (HS.out.on0 hK)
        clear hK HS
        go_wp2_with fail
        have hM : 1 + 10 * k ≤ 200 := by omega
        have HS := hid (show SU w rb (N + (1 + 10 * k)) w0 s ta tcap by rw [← Nat.add_assoc]; exact HS0.out)
        clear HS0
        generalize 1 + 10 * k = M at hM HS
        refine (HP.out M (by omega) 20 _ HS.out.2.2.2.2.1 (by omega)).mono ?_
        rintro e w1 ⟨x, rfl, x0, -, -, hK, hR⟩
        have HS1 := hid (HS.out.on hK hR)
        clear hK hR HS
        by_cases q0 : x = 0
        · subst q0
          go_wp2_with fail
          refine (HP.out (M + 1) (by omega) 9 _ HS1.out.2.2.2.2.1 (by omega)).mono ?_
          rintro e w2 ⟨y, rfl, y0, y1, -, hK, hR⟩
          have HS2 := hid (HS1.out.on hK hR)
          have hy9 := y1 (by omega)
          clear hK hR HS1 y1
          have hz := HS2.out.2.1
          have z0 := cell_of_block hz 0
          have z1 := cell_of_block hz 1
          have z2 := cell_of_block hz 2
          have z3 := cell_of_block hz 3
          have f0 := frozen_of_block hz 0
          have f1 := frozen_of_block hz 1
          have f2 := frozen_of_block hz 2
          have f3 := frozen_of_block hz 3
          simp at z0 z1 z2 z3
          have hz := lt_of_block hz
          have hy := HS2.out.1
          have a0 := cell_of_block hy 0
          have a1 := cell_of_block hy 1
          have a2 := cell_of_block hy 2
          have a3 := cell_of_block hy 3
          have g0 := frozen_of_block hy 0
          have g1 := frozen_of_block hy 1
          have g2 := frozen_of_block hy 2
          have g3 := frozen_of_block hy 3
          simp at a0 a1 a2 a3
          have hy := lt_of_block hy
          go_wp2
          refine bodyPost_ret (v := .agg #[.int .i64 (y - 1), .string (bs s.user), .slice ta s.to.length tcap, .string (bs s.text)]) (by simp [results, Tryz.results19, go_sem, z0, z1, z2, z3]) rfl ?_
          exact (HS2.out.cell 0 (.int .i64 (y - 1)) ⟨y - 1, s.user, s.to, s.text⟩ ta tcap (by simp) HS2.out.2.2.1).fin (by have := HB.out.1; dsimp only; omega) (by have := HB.out.2; dsimp only; omega) (by omega) _ _ _ _
        by_cases q1 : x = 1
        · subst q1
          clear q0
          go_wp2_with fail
          refine (HNM.out (M + 1) (by omega) _ HS1.out.2.2.2.2.1).mono ?_
          rintro e w2 ⟨l, rfl, hl, hK, hR⟩
          have HS2 := hid (HS1.out.on hK hR)
          clear hK hR HS1
          have hz := HS2.out.2.1
          have z0 := cell_of_block hz 0
          have z1 := cell_of_block hz 1
          have z2 := cell_of_block hz 2
          have z3 := cell_of_block hz 3
          have f0 := frozen_of_block hz 0
          have f1 := frozen_of_block hz 1
          have f2 := frozen_of_block hz 2
          have f3 := frozen_of_block hz 3
          simp at z0 z1 z2 z3
          have hz := lt_of_block hz
          have hy := HS2.out.1
          have a0 := cell_of_block hy 0
          have a1 := cell_of_block hy 1
          have a2 := cell_of_block hy 2
          have a3 := cell_of_block hy 3
          have g0 := frozen_of_block hy 0
          have g1 := frozen_of_block hy 1
          have g2 := frozen_of_block hy 2
          have g3 := frozen_of_block hy 3
          simp at a0 a1 a2 a3
          have hy := lt_of_block hy
          go_wp2
          refine bodyPost_ret (v := .agg #[.int .i64 s.stage, .string (bs l), .slice ta s.to.length tcap, .string (bs s.text)]) (by simp [results, Tryz.results19, go_sem, z0, z1, z2, z3]) rfl ?_
          exact (HS2.out.cell 1 (.string (bs l)) ⟨s.stage, l, s.to, s.text⟩ ta tcap (by simp) HS2.out.2.2.1).fin (by dsimp only; omega) (by have := HB.out.2; dsimp only; omega) (by omega) _ _ _ _
        by_cases q2 : x = 2
        · subst q2
          clear q0 q1
          go_wp2_with fail
          refine (HP.out (M + 1) (by omega) 4 _ HS1.out.2.2.2.2.1 (by omega)).mono ?_
          rintro e w2 ⟨y, rfl, y0, y1, -, hK, hR⟩
          have HS2 := hid (HS1.out.on hK hR)
          have hy9 := y1 (by omega)
          obtain ⟨k4, rfl⟩ := Int.eq_ofNat_of_zero_le y0
          have hk4 : k4 < 4 := by omega
          clear hK hR HS1 y1
          go_wp2_with fail
          refine (many_y k4 _ hk4).mono ?_
          rintro e w3 ⟨⟨l, rfl, hl⟩, hK⟩
          have HS3 := hid (HS2.out.on0 hK)
          clear hK HS2
          have hz := HS3.out.2.1
          have z0 := cell_of_block hz 0
          have z1 := cell_of_block hz 1
          have z2 := cell_of_block hz 2
          have z3 := cell_of_block hz 3
          have f0 := frozen_of_block hz 0
          have f1 := frozen_of_block hz 1
          have f2 := frozen_of_block hz 2
          have f3 := frozen_of_block hz 3
          simp at z0 z1 z2 z3
          have hz := lt_of_block hz
          have hy := HS3.out.1
          have a0 := cell_of_block hy 0
          have a1 := cell_of_block hy 1
          have a2 := cell_of_block hy 2
          have a3 := cell_of_block hy 3
          have g0 := frozen_of_block hy 0
          have g1 := frozen_of_block hy 1
          have g2 := frozen_of_block hy 2
          have g3 := frozen_of_block hy 3
          simp at a0 a1 a2 a3
          have hy := lt_of_block hy
          go_wp2
          refine bodyPost_ret (v := .agg #[.int .i64 s.stage, .string (bs s.user), .slice ta s.to.length tcap, .string (bs l)]) (by simp [results, Tryz.results19, go_sem, z0, z1, z2, z3]) rfl ?_
          exact (HS3.out.cell 3 (.string (bs l)) ⟨s.stage, s.user, s.to, l⟩ ta tcap (by simp) HS3.out.2.2.1).fin (by have := HB.out.1; dsimp only; omega) (by dsimp only; omega) (by omega) _ _ _ _
        by_cases q3 : x = 3
        · subst q3
          clear q0 q1 q2
          go_wp2_with fail
          refine (HTO.out (M + 1) (by omega) _ HS1.out.2.2.2.2.1).mono ?_
          rintro e w2 ⟨v, L, rfl, hv, -, -, hK, hR⟩
          have HS2 := hid (HS1.out.on hK hR)
          obtain ⟨ta2, tc2, rfl⟩ := hv.form
          have HV := hid (hv.low (lo' := w.heap.size + 3) (by have := lt_of_block HS1.out.1; omega))
          clear hK hR HS1 hv
          have hz := HS2.out.2.1
          have z0 := cell_of_block hz 0
          have z1 := cell_of_block hz 1
          have z2 := cell_of_block hz 2
          have z3 := cell_of_block hz 3
          have f0 := frozen_of_block hz 0
          have f1 := frozen_of_block hz 1
          have f2 := frozen_of_block hz 2
          have f3 := frozen_of_block hz 3
          simp at z0 z1 z2 z3
          have hz := lt_of_block hz
          have hy := HS2.out.1
          have a0 := cell_of_block hy 0
          have a1 := cell_of_block hy 1
          have a2 := cell_of_block hy 2
          have a3 := cell_of_block hy 3
          have g0 := frozen_of_block hy 0
          have g1 := frozen_of_block hy 1
          have g2 := frozen_of_block hy 2
          have g3 := frozen_of_block hy 3
          simp at a0 a1 a2 a3
          have hy := lt_of_block hy
          go_wp2
          refine bodyPost_ret (v := .agg #[.int .i64 s.stage, .string (bs s.user), .slice ta2 L.length tc2, .string (bs s.text)]) (by simp [results, Tryz.results19, go_sem, z0, z1, z2, z3]) rfl ?_
          exact (HS2.out.cell 2 (.slice ta2 L.length tc2) ⟨s.stage, s.user, L, s.text⟩ ta2 tc2 (by simp) HV.out).fin (by have := HB.out.1; dsimp only; omega) (by have := HB.out.2; dsimp only; omega) (by omega) _ _ _ _
        have e0 : (x == 0) = false := by rw [beq_eq_false_iff_ne]; exact q0
        have e1 : (x == 1) = false := by rw [beq_eq_false_iff_ne]; exact q1
        have e2 : (x == 2) = false := by rw [beq_eq_false_iff_ne]; exact q2
        have e3 : (x == 3) = false := by rw [beq_eq_false_iff_ne]; exact q3
        have hz := HS1.out.2.1
        have z0 := cell_of_block hz 0
        have z1 := cell_of_block hz 1
        have z2 := cell_of_block hz 2
        have z3 := cell_of_block hz 3
        have f0 := frozen_of_block hz 0
        have f1 := frozen_of_block hz 1
        have f2 := frozen_of_block hz 2
        have f3 := frozen_of_block hz 3
        simp at z0 z1 z2 z3
        have hz := lt_of_block hz
        have hy := HS1.out.1
        have a0 := cell_of_block hy 0
        have a1 := cell_of_block hy 1
        have a2 := cell_of_block hy 2
        have a3 := cell_of_block hy 3
        have g0 := frozen_of_block hy 0
        have g1 := frozen_of_block hy 1
        have g2 := frozen_of_block hy 2
        have g3 := frozen_of_block hy 3
        simp at a0 a1 a2 a3
        have hy := lt_of_block hy
        go_wp2
        refine bodyPost_ret (v := .agg #[.int .i64 s.stage, .string (bs s.user), .slice ta s.to.length tcap, .string (bs s.text)]) (by simp [results, Tryz.results19, go_sem, z0, z1, z2, z3]) rfl ?_
        exact HS1.out.fin (by have := HB.out.1; omega) (by have := HB.out.2; omega) (by omega) _ _ _ _
      · have hlt' : ¬ (k : Int) < n := by omega
        go_wp2_with fail
        have hM : 1 + 10 * k ≤ 200 := by omega
        have HSx := hid (show SU w rb (N + (1 + 10 * k)) wr s ta tcap by rw [← Nat.add_assoc]; exact HS.out)
        clear HS
        have HS := HSx
        clear HSx
        generalize 1 + 10 * k = M at hM HS
        refine (HP.out M (by omega) 20 _ HS.out.2.2.2.2.1 (by omega)).mono ?_
        rintro e w1 ⟨x, rfl, x0, -, -, hK, hR⟩
        have HS1 := hid (HS.out.on hK hR)
        clear hK hR HS
        by_cases q0 : x = 0
        · subst q0
          go_wp2_with fail
          refine (HP.out (M + 1) (by omega) 9 _ HS1.out.2.2.2.2.1 (by omega)).mono ?_
          rintro e w2 ⟨y, rfl, y0, y1, -, hK, hR⟩
          have HS2 := hid (HS1.out.on hK hR)
          have hy9 := y1 (by omega)
          clear hK hR HS1 y1
          have hz := HS2.out.2.1
          have z0 := cell_of_block hz 0
          have z1 := cell_of_block hz 1
          have z2 := cell_of_block hz 2
          have z3 := cell_of_block hz 3
          have f0 := frozen_of_block hz 0
          have f1 := frozen_of_block hz 1
          have f2 := frozen_of_block hz 2
          have f3 := frozen_of_block hz 3
          simp at z0 z1 z2 z3
          have hz := lt_of_block hz
          have hy := HS2.out.1
          have a0 := cell_of_block hy 0
          have a1 := cell_of_block hy 1
          have a2 := cell_of_block hy 2
          have a3 := cell_of_block hy 3
          have g0 := frozen_of_block hy 0
          have g1 := frozen_of_block hy 1
          have g2 := frozen_of_block hy 2
          have g3 := frozen_of_block hy 3
          simp at a0 a1 a2 a3
          have hy := lt_of_block hy
          go_wp2
          refine bodyPost_ret (v := .agg #[.int .i64 (y - 1), .string (bs s.user), .slice ta s.to.length tcap, .string (bs s.text)]) (by simp [results, Tryz.results19, go_sem, z0, z1, z2, z3]) rfl ?_
          exact (HS2.out.cell 0 (.int .i64 (y - 1)) ⟨y - 1, s.user, s.to, s.text⟩ ta tcap (by simp) HS2.out.2.2.1).fin (by have := HB.out.1; dsimp only; omega) (by have := HB.out.2; dsimp only; omega) (by omega) _ _ _ _
        by_cases q1 : x = 1
        · subst q1
          clear q0
          go_wp2_with fail
          refine (HNM.out (M + 1) (by omega) _ HS1.out.2.2.2.2.1).mono ?_
          rintro e w2 ⟨l, rfl, hl, hK, hR⟩
          have HS2 := hid (HS1.out.on hK hR)
          clear hK hR HS1
          have hz := HS2.out.2.1
          have z0 := cell_of_block hz 0
          have z1 := cell_of_block hz 1
          have z2 := cell_of_block hz 2
          have z3 := cell_of_block hz 3
          have f0 := frozen_of_block hz 0
          have f1 := frozen_of_block hz 1
          have f2 := frozen_of_block hz 2
          have f3 := frozen_of_block hz 3
          simp at z0 z1 z2 z3
          have hz := lt_of_block hz
          have hy := HS2.out.1
          have a0 := cell_of_block hy 0
          have a1 := cell_of_block hy 1
          have a2 := cell_of_block hy 2
          have a3 := cell_of_block hy 3
          have g0 := frozen_of_block hy 0
          have g1 := frozen_of_block hy 1
          have g2 := frozen_of_block hy 2
          have g3 := frozen_of_block hy 3
          simp at a0 a1 a2 a3
          have hy := lt_of_block hy
          go_wp2
          refine bodyPost_ret (v := .agg #[.int .i64 s.stage, .string (bs l), .slice ta s.to.length tcap, .string (bs s.text)]) (by simp [results, Tryz.results19, go_sem, z0, z1, z2, z3]) rfl ?_
          exact (HS2.out.cell 1 (.string (bs l)) ⟨s.stage, l, s.to, s.text⟩ ta tcap (by simp) HS2.out.2.2.1).fin (by dsimp only; omega) (by have := HB.out.2; dsimp only; omega) (by omega) _ _ _ _
        by_cases q2 : x = 2
        · subst q2
          clear q0 q1
          go_wp2_with fail
          refine (HP.out (M + 1) (by omega) 4 _ HS1.out.2.2.2.2.1 (by omega)).mono ?_
          rintro e w2 ⟨y, rfl, y0, y1, -, hK, hR⟩
          have HS2 := hid (HS1.out.on hK hR)
          have hy9 := y1 (by omega)
          obtain ⟨k4, rfl⟩ := Int.eq_ofNat_of_zero_le y0
          have hk4 : k4 < 4 := by omega
          clear hK hR HS1 y1
          go_wp2_with fail
          refine (many_y k4 _ hk4).mono ?_
          rintro e w3 ⟨⟨l, rfl, hl⟩, hK⟩
          have HS3 := hid (HS2.out.on0 hK)
          clear hK HS2
          have hz := HS3.out.2.1
          have z0 := cell_of_block hz 0
          have z1 := cell_of_block hz 1
          have z2 := cell_of_block hz 2
          have z3 := cell_of_block hz 3
          have f0 := frozen_of_block hz 0
          have f1 := frozen_of_block hz 1
          have f2 := frozen_of_block hz 2
          have f3 := frozen_of_block hz 3
          simp at z0 z1 z2 z3
          have hz := lt_of_block hz
          have hy := HS3.out.1
          have a0 := cell_of_block hy 0
          have a1 := cell_of_block hy 1
          have a2 := cell_of_block hy 2
          have a3 := cell_of_block hy 3
          have g0 := frozen_of_block hy 0
          have g1 := frozen_of_block hy 1
          have g2 := frozen_of_block hy 2
          have g3 := frozen_of_block hy 3
          simp at a0 a1 a2 a3
          have hy := lt_of_block hy
          go_wp2
          refine bodyPost_ret (v := .agg #[.int .i64 s.stage, .string (bs s.user), .slice ta s.to.length tcap, .string (bs l)]) (by simp [results, Tryz.results19, go_sem, z0, z1, z2, z3]) rfl ?_
          exact (HS3.out.cell 3 (.string (bs l)) ⟨s.stage, s.user, s.to, l⟩ ta tcap (by simp) HS3.out.2.2.1).fin (by have := HB.out.1; dsimp only; omega) (by dsimp only; omega) (by omega) _ _ _ _
        by_cases q3 : x = 3
        · subst q3
          clear q0 q1 q2
          go_wp2_with fail
          refine (HTO.out (M + 1) (by omega) _ HS1.out.2.2.2.2.1).mono ?_
          rintro e w2 ⟨v, L, rfl, hv, -, -, hK, hR⟩
          have HS2 := hid (HS1.out.on hK hR)
          obtain ⟨ta2, tc2, rfl⟩ := hv.form
          have HV := hid (hv.low (lo' := w.heap.size + 3) (by have := lt_of_block HS1.out.1; omega))
          clear hK hR HS1 hv
          have hz := HS2.out.2.1
          have z0 := cell_of_block hz 0
          have z1 := cell_of_block hz 1
          have z2 := cell_of_block hz 2
          have z3 := cell_of_block hz 3
          have f0 := frozen_of_block hz 0
          have f1 := frozen_of_block hz 1
          have f2 := frozen_of_block hz 2
          have f3 := frozen_of_block hz 3
          simp at z0 z1 z2 z3
          have hz := lt_of_block hz
          have hy := HS2.out.1
          have a0 := cell_of_block hy 0
          have a1 := cell_of_block hy 1
          have a2 := cell_of_block hy 2
          have a3 := cell_of_block hy 3
          have g0 := frozen_of_block hy 0
          have g1 := frozen_of_block hy 1
          have g2 := frozen_of_block hy 2
          have g3 := frozen_of_block hy 3
          simp at a0 a1 a2 a3
          have hy := lt_of_block hy
          go_wp2
          refine bodyPost_ret (v := .agg #[.int .i64 s.stage, .string (bs s.user), .slice ta2 L.length tc2, .string (bs s.text)]) (by simp [results, Tryz.results19, go_sem, z0, z1, z2, z3]) rfl ?_
          exact (HS2.out.cell 2 (.slice ta2 L.length tc2) ⟨s.stage, s.user, L, s.text⟩ ta2 tc2 (by simp) HV.out).fin (by have := HB.out.1; dsimp only; omega) (by have := HB.out.2; dsimp only; omega) (by omega) _ _ _ _
        have e0 : (x == 0) = false := by rw [beq_eq_false_iff_ne]; exact q0
        have e1 : (x == 1) = false := by rw [beq_eq_false_iff_ne]; exact q1
        have e2 : (x == 2) = false := by rw [beq_eq_false_iff_ne]; exact q2
        have e3 : (x == 3) = false := by rw [beq_eq_false_iff_ne]; exact q3
        have hz := HS1.out.2.1
        have z0 := cell_of_block hz 0
        have z1 := cell_of_block hz 1
        have z2 := cell_of_block hz 2
        have z3 := cell_of_block hz 3
        have f0 := frozen_of_block hz 0
        have f1 := frozen_of_block hz 1
        have f2 := frozen_of_block hz 2
        have f3 := frozen_of_block hz 3
        simp at z0 z1 z2 z3
        have hz := lt_of_block hz
        have hy := HS1.out.1
        have a0 := cell_of_block hy 0
        have a1 := cell_of_block hy 1
        have a2 := cell_of_block hy 2
        have a3 := cell_of_block hy 3
        have g0 := frozen_of_block hy 0
        have g1 := frozen_of_block hy 1
        have g2 := frozen_of_block hy 2
        have g3 := frozen_of_block hy 3
        simp at a0 a1 a2 a3
        have hy := lt_of_block hy
        go_wp2
        refine bodyPost_ret (v := .agg #[.int .i64 s.stage, .string (bs s.user), .slice ta s.to.length tcap, .string (bs s.text)]) (by simp [results, Tryz.results19, go_sem, z0, z1, z2, z3]) rfl ?_
        exact HS1.out.fin (by have := HB.out.1; omega) (by have := HB.out.2; omega) (by omega) _ _ _ _
  | true =>
    rw [huo] at HUV
    have HUO := hid huo
    clear huo
    go_wp2_with fail
    go_loopg [7] 14 (fun m i wr => ∃ (k : Nat) (s : Sb) (ta : Option Addr) (tcap : Nat), m = 14 - k ∧ k ≤ 13 ∧ i = .int .i64 k ∧ subOk s = true ∧ SU w rb (N + 1 + 10 * k) wr s ta tcap)
    case atStart => exact ⟨0, ⟨0, [], [], []⟩, some ⟨w.heap.size + 1, 0, none⟩, 0, rfl, by omega, rfl, rfl, HS1.out⟩
    case round =>
      obtain ⟨k, s, ta, tcap, hm, hk, rfl, hok, hS⟩ := hrel
      have HM := hid hm
      have HOK := hid hok
      have HS := hid hS
      have HB := hid (show s.user.length ≤ 8 ∧ s.text.length ≤ 21 from ⟨(subOk_use hok).2.2.2.2.2.1, (subOk_use hok).2.2.2.2.2.2.2⟩)
      clear hm hok hS HS1
      by_cases hlt : k < n
      · have hlt' : (k : Int) < n := by omega
        go_wp2_with fail
        refine (HUV.out _ HS.out.2.2.2.1).mono ?_
        rintro e w0 ⟨rfl, hK⟩
        have HS0 := hid (HS.out.on0 hK)
        clear hK HS
        have hb := HS0.out.1
        have z0 := cell_of_block hb 0
        have z1 := cell_of_block hb 1
        have z2 := cell_of_block hb 2
        have z3 := cell_of_block hb 3
        have f0 := frozen_of_block hb 0
        have f1 := frozen_of_block hb 1
        have f2 := frozen_of_block hb 2
        have f3 := frozen_of_block hb 3
        simp at z0 z1 z2 z3
        clear hb
        have hmR : N + 1 + 10 * k ≤ 999890 := by have := HN9.out; omega
        have HMR := hid hmR
        clear hmR
        have CK := hid (fun W' (h : Kept [rb] w0 W') => show W'.cell? ⟨w.heap.size + 1 + 1, 0, none⟩ = some (.int .i64 s.stage) ∧ W'.cell? ⟨w.heap.size + 1 + 1, 1, none⟩ = some (.string (bs s.user)) ∧ W'.cell? ⟨w.heap.size + 1 + 1, 2, none⟩ = some (.slice ta s.to.length tcap) ∧ W'.cell? ⟨w.heap.size + 1 + 1, 3, none⟩ = some (.string (bs s.text)) from by
          have hh := HS0.out.2.2.2.2.2
          have hb := h.same HS0.out.1 (by simp; omega)
          exact ⟨by rw [cell_of_block hb]; rfl, by rw [cell_of_block hb]; rfl, by rw [cell_of_block hb]; rfl, by rw [cell_of_block hb]; rfl⟩)
        have HC1 := hid (fun W (h : Kept [] w0 W) => l92Command_any rb (N + 1 + 10 * k) s (.agg #[.int .i64 s.stage, .string (bs s.user), .slice ta s.to.length tcap, .string (bs s.text)]) (.slice ua us.length ucap) us W (HS0.out.2.2.2.2.1.kept h) (by have := HMR.out; omega) ((HS0.out.sub (by have := HB.out.1; unfold bigN; omega) (by have := HB.out.2; unfold bigN; omega)).kept0 h) (by have := HB.out.1; omega) (HU.out _ (HS0.out.2.2.2.1.trans h.nil)))
        have HC2 := hid (fun l W (hl : l.length ≤ 200) (h : Kept [rb] w0 W) => sSubLine_new (.agg #[.int .i64 s.stage, .string (bs s.user), .slice ta s.to.length tcap, .string (bs s.text)]) (.slice ua us.length ucap) s us [104, 111, 115, 116, 46, 111, 114, 103] l W ((HS0.out.sub (by have := HB.out.1; unfold bigN; omega) (by have := HB.out.2; unfold bigN; omega)).keptR HS0.out.2.2.2.2.1 h) ((HU.out _ (HS0.out.2.2.2.1.trans h)).low (Nat.zero_le _)) (by unfold bigN; decide) (by unfold bigN; omega))
        go_wp2
        go_region_with ((first
          | (go_at_call 22
             refine (HC1.out _ ?_).mono ?_
             · repeat' with_reducible first | exact Kept.refl _ _ | refine Kept.drew ?_ | refine Kept.alloc ?_ _
             rintro e w2 ⟨l, rfl, hl, hK, hR2⟩
             have hKK2 : Kept [rb] w0 w2 := Kept.trans (by repeat' with_reducible first | exact Kept.refl _ _ | refine Kept.drew ?_ | refine Kept.alloc ?_ _) hK
             have hb2 := hKK2.same HS0.out.1 (by have := HS0.out.2.2.2.2.2; simp; omega)
             have z0 := cell_of_block hb2 0
             have z1 := cell_of_block hb2 1
             have z2 := cell_of_block hb2 2
             have z3 := cell_of_block hb2 3
             have f0 := frozen_of_block hb2 0
             have f1 := frozen_of_block hb2 1
             have f2 := frozen_of_block hb2 2
             have f3 := frozen_of_block hb2 3
             simp at z0 z1 z2 z3
             have hz2 := lt_of_block hb2)
          | (go_at_call 13
             refine (HC2.out l _ hl ?_).mono ?_
             · repeat' with_reducible first | exact hKK2 | refine Kept.drew ?_ | refine Kept.alloc ?_ _
             rintro e w3 ⟨r, rfl, hs3, hK⟩
             have hKK3 : Kept [rb] w0 w3 := Kept.trans (by repeat' with_reducible first | exact hKK2 | refine Kept.drew ?_ | refine Kept.alloc ?_ _) hK.nil
             obtain ⟨tv3, rfl, hs4, hu3, ht3⟩ := hs3
             obtain ⟨ta3, tc3, rfl⟩ := hs4.form
             have hb3 := hKK3.same HS0.out.1 (by have := HS0.out.2.2.2.2.2; simp; omega)
             have z0 := cell_of_block hb3 0
             have z1 := cell_of_block hb3 1
             have z2 := cell_of_block hb3 2
             have z3 := cell_of_block hb3 3
             have f0 := frozen_of_block hb3 0
             have f1 := frozen_of_block hb3 1
             have f2 := frozen_of_block hb3 2
             have f3 := frozen_of_block hb3 3
             simp at z0 z1 z2 z3
             have hz3 := lt_of_block hb3)))
        all_goals
          go_wp2
          go_roundg (14 - (k + 1))
          case measure => have := HM.out; omega
          case rel => exact ⟨k + 1, _, ta3, tc3, rfl, by omega, by go_num, subLine_ok HOK.out, HS0.out.line hKK3 ((hR2.kept (Kept.trans (by repeat' with_reducible first | exact Kept.refl _ _ | refine Kept.drew ?_ | refine Kept.alloc ?_ _) hK)).mono (by omega)) (hs4.low (by have := hz2; omega))⟩
      · have hlt' : ¬ (k : Int) < n := by omega
        go_wp2_with fail
        have hM : 1 + 10 * k ≤ 200 := by omega
        have HSx := hid (show SU w rb (N + (1 + 10 * k)) wr s ta tcap by rw [← Nat.add_assoc]; exact HS.out)
        clear HS
        have HS := HSx
        clear HSx
        generalize 1 + 10 * k = M at hM HS
        refine (HP.out M (by omega) 20 _ HS.out.2.2.2.2.1 (by omega)).mono ?_
        rintro e w1 ⟨x, rfl, x0, -, -, hK, hR⟩
        have HS1 := hid (HS.out.on hK hR)
        clear hK hR HS
        by_cases q0 : x = 0
        · subst q0
          go_wp2_with fail
          refine (HP.out (M + 1) (by omega) 9 _ HS1.out.2.2.2.2.1 (by omega)).mono ?_
          rintro e w2 ⟨y, rfl, y0, y1, -, hK, hR⟩
          have HS2 := hid (HS1.out.on hK hR)
          have hy9 := y1 (by omega)
          clear hK hR HS1 y1
          have hz := HS2.out.2.1
          have z0 := cell_of_block hz 0
          have z1 := cell_of_block hz 1
          have z2 := cell_of_block hz 2
          have z3 := cell_of_block hz 3
          have f0 := frozen_of_block hz 0
          have f1 := frozen_of_block hz 1
          have f2 := frozen_of_block hz 2
          have f3 := frozen_of_block hz 3
          simp at z0 z1 z2 z3
          have hz := lt_of_block hz
          have hy := HS2.out.1
          have a0 := cell_of_block hy 0
          have a1 := cell_of_block hy 1
          have a2 := cell_of_block hy 2
          have a3 := cell_of_block hy 3
          have g0 := frozen_of_block hy 0
          have g1 := frozen_of_block hy 1
          have g2 := frozen_of_block hy 2
          have g3 := frozen_of_block hy 3
          simp at a0 a1 a2 a3
          have hy := lt_of_block hy
          go_wp2
          refine bodyPost_ret (v := .agg #[.int .i64 (y - 1), .string (bs s.user), .slice ta s.to.length tcap, .string (bs s.text)]) (by simp [results, Tryz.results19, go_sem, z0, z1, z2, z3]) rfl ?_
          exact (HS2.out.cell 0 (.int .i64 (y - 1)) ⟨y - 1, s.user, s.to, s.text⟩ ta tcap (by simp) HS2.out.2.2.1).fin (by have := HB.out.1; dsimp only; omega) (by have := HB.out.2; dsimp only; omega) (by omega) _ _ _ _
        by_cases q1 : x = 1
        · subst q1
          clear q0
          go_wp2_with fail
          refine (HNM.out (M + 1) (by omega) _ HS1.out.2.2.2.2.1).mono ?_
          rintro e w2 ⟨l, rfl, hl, hK, hR⟩
          have HS2 := hid (HS1.out.on hK hR)
          clear hK hR HS1
          have hz := HS2.out.2.1
          have z0 := cell_of_block hz 0
          have z1 := cell_of_block hz 1
          have z2 := cell_of_block hz 2
          have z3 := cell_of_block hz 3
          have f0 := frozen_of_block hz 0
          have f1 := frozen_of_block hz 1
          have f2 := frozen_of_block hz 2
          have f3 := frozen_of_block hz 3
          simp at z0 z1 z2 z3
          have hz := lt_of_block hz
          have hy := HS2.out.1
          have a0 := cell_of_block hy 0
          have a1 := cell_of_block hy 1
          have a2 := cell_of_block hy 2
          have a3 := cell_of_block hy 3
          have g0 := frozen_of_block hy 0
          have g1 := frozen_of_block hy 1
          have g2 := frozen_of_block hy 2
          have g3 := frozen_of_block hy 3
          simp at a0 a1 a2 a3
          have hy := lt_of_block hy
          go_wp2
          refine bodyPost_ret (v := .agg #[.int .i64 s.stage, .string (bs l), .slice ta s.to.length tcap, .string (bs s.text)]) (by simp [results, Tryz.results19, go_sem, z0, z1, z2, z3]) rfl ?_
          exact (HS2.out.cell 1 (.string (bs l)) ⟨s.stage, l, s.to, s.text⟩ ta tcap (by simp) HS2.out.2.2.1).fin (by dsimp only; omega) (by have := HB.out.2; dsimp only; omega) (by omega) _ _ _ _
        by_cases q2 : x = 2
        · subst q2
          clear q0 q1
          go_wp2_with fail
          refine (HP.out (M + 1) (by omega) 4 _ HS1.out.2.2.2.2.1 (by omega)).mono ?_
          rintro e w2 ⟨y, rfl, y0, y1, -, hK, hR⟩
          have HS2 := hid (HS1.out.on hK hR)
          have hy9 := y1 (by omega)
          obtain ⟨k4, rfl⟩ := Int.eq_ofNat_of_zero_le y0
          have hk4 : k4 < 4 := by omega
          clear hK hR HS1 y1
          go_wp2_with fail
          refine (many_y k4 _ hk4).mono ?_
          rintro e w3 ⟨⟨l, rfl, hl⟩, hK⟩
          have HS3 := hid (HS2.out.on0 hK)
          clear hK HS2
          have hz := HS3.out.2.1
          have z0 := cell_of_block hz 0
          have z1 := cell_of_block hz 1
          have z2 := cell_of_block hz 2
          have z3 := cell_of_block hz 3
          have f0 := frozen_of_block hz 0
          have f1 := frozen_of_block hz 1
          have f2 := frozen_of_block hz 2
          have f3 := frozen_of_block hz 3
          simp at z0 z1 z2 z3
          have hz := lt_of_block hz
          have hy := HS3.out.1
          have a0 := cell_of_block hy 0
          have a1 := cell_of_block hy 1
          have a2 := cell_of_block hy 2
          have a3 := cell_of_block hy 3
          have g0 := frozen_of_block hy 0
          have g1 := frozen_of_block hy 1
          have g2 := frozen_of_block hy 2
          have g3 := frozen_of_block hy 3
          simp at a0 a1 a2 a3
          have hy := lt_of_block hy
          go_wp2
          refine bodyPost_ret (v := .agg #[.int .i64 s.stage, .string (bs s.user), .slice ta s.to.length tcap, .string (bs l)]) (by simp [results, Tryz.results19, go_sem, z0, z1, z2, z3]) rfl ?_
          exact (HS3.out.cell 3 (.string (bs l)) ⟨s.stage, s.user, s.to, l⟩ ta tcap (by simp) HS3.out.2.2.1).fin (by have := HB.out.1; dsimp only; omega) (by dsimp only; omega) (by omega) _ _ _ _
        by_cases q3 : x = 3
        · subst q3
          clear q0 q1 q2
          go_wp2_with fail
          refine (HTO.out (M + 1) (by omega) _ HS1.out.2.2.2.2.1).mono ?_
          rintro e w2 ⟨v, L, rfl, hv, -, -, hK, hR⟩
          have HS2 := hid (HS1.out.on hK hR)
          obtain ⟨ta2, tc2, rfl⟩ := hv.form
          have HV := hid (hv.low (lo' := w.heap.size + 3) (by have := lt_of_block HS1.out.1; omega))
          clear hK hR HS1 hv
          have hz := HS2.out.2.1
          have z0 := cell_of_block hz 0
          have z1 := cell_of_block hz 1
          have z2 := cell_of_block hz 2
          have z3 := cell_of_block hz 3
          have f0 := frozen_of_block hz 0
          have f1 := frozen_of_block hz 1
          have f2 := frozen_of_block hz 2
          have f3 := frozen_of_block hz 3
          simp at z0 z1 z2 z3
          have hz := lt_of_block hz
          have hy := HS2.out.1
          have a0 := cell_of_block hy 0
          have a1 := cell_of_block hy 1
          have a2 := cell_of_block hy 2
          have a3 := cell_of_block hy 3
          have g0 := frozen_of_block hy 0
          have g1 := frozen_of_block hy 1
          have g2 := frozen_of_block hy 2
          have g3 := frozen_of_block hy 3
          simp at a0 a1 a2 a3
          have hy := lt_of_block hy
          go_wp2
          refine bodyPost_ret (v := .agg #[.int .i64 s.stage, .string (bs s.user), .slice ta2 L.length tc2, .string (bs s.text)]) (by simp [results, Tryz.results19, go_sem, z0, z1, z2, z3]) rfl ?_
          exact (HS2.out.cell 2 (.slice ta2 L.length tc2) ⟨s.stage, s.user, L, s.text⟩ ta2 tc2 (by simp) HV.out).fin (by have := HB.out.1; dsimp only; omega) (by have := HB.out.2; dsimp only; omega) (by omega) _ _ _ _
        have e0 : (x == 0) = false := by rw [beq_eq_false_iff_ne]; exact q0
        have e1 : (x == 1) = false := by rw [beq_eq_false_iff_ne]; exact q1
        have e2 : (x == 2) = false := by rw [beq_eq_false_iff_ne]; exact q2
        have e3 : (x == 3) = false := by rw [beq_eq_false_iff_ne]; exact q3
        have hz := HS1.out.2.1
        have z0 := cell_of_block hz 0
        have z1 := cell_of_block hz 1
        have z2 := cell_of_block hz 2
        have z3 := cell_of_block hz 3
        have f0 := frozen_of_block hz 0
        have f1 := frozen_of_block hz 1
        have f2 := frozen_of_block hz 2
        have f3 := frozen_of_block hz 3
        simp at z0 z1 z2 z3
        have hz := lt_of_block hz
        have hy := HS1.out.1
        have a0 := cell_of_block hy 0
        have a1 := cell_of_block hy 1
        have a2 := cell_of_block hy 2
        have a3 := cell_of_block hy 3
        have g0 := frozen_of_block hy 0
        have g1 := frozen_of_block hy 1
        have g2 := frozen_of_block hy 2
        have g3 := frozen_of_block hy 3
        simp at a0 a1 a2 a3
        have hy := lt_of_block hy
        go_wp2
        refine bodyPost_ret (v := .agg #[.int .i64 s.stage, .string (bs s.user), .slice ta s.to.length tcap, .string (bs s.text)]) (by simp [results, Tryz.results19, go_sem, z0, z1, z2, z3]) rfl ?_
        exact HS1.out.fin (by have := HB.out.1; omega) (by have := HB.out.2; omega) (by omega) _ _ _ _
end Go.Proofs.YtahiahboneljaaaGreatDoor
namespace Go.Proofs.YtahiahboneljaaaGreatDoor
open Go.RowKit

/-- What the draw of a submission, users, a domain and a line hands back. -/
def DSRes (w : World) (e : Ending) (w' : World) : Prop :=
  ∃ sv uv, ∃ (s : Sb) (us : List Usr) (d l : List UInt8), e = .returned (.tuple #[sv, uv, .string (bs d), .string (bs l)]) ∧ SubAt 0 w' sv s ∧ UsersAt 0 w' uv us ∧ d.length ≤ 40 ∧ l.length ≤ 200 ∧ Kept [] w w'

theorem SubAt.low {lo lo' : Nat} {w : World} {v : Value} {s : Sb} (h : SubAt lo w v s) (hl : lo' ≤ lo) : SubAt lo' w v s := by
  obtain ⟨tv, h1, h2, h3⟩ := h
  exact ⟨tv, h1, h2.low hl, h3⟩

set_option maxHeartbeats 4000000 in
set_option maxRecDepth 100000 in
theorem drawSubLine_any (v : Value) (w : World) (h : CodeAt w v) : Calls Tryz.prog 11 #[v] w (DSRes w) := by
  obtain ⟨a, cap, b, off, xs, rfl, hc, ha, hx⟩ := id h
  have hb0 := new_block w (.cells #[.int .i64 0, .string ⟨#[]⟩, .slice none 0 0, .string ⟨#[]⟩] 25)
  have hk0 : Kept [] w (w.alloc (.cells #[.int .i64 0, .string ⟨#[]⟩, .slice none 0 0, .string ⟨#[]⟩] 25)) := (Kept.refl [] w).alloc _
  have HO := hid (l6Open_any (.slice a xs.length cap) (w.alloc (.cells #[.int .i64 0, .string ⟨#[]⟩, .slice none 0 0, .string ⟨#[]⟩] 25)) ⟨a, cap, b, off, xs, rfl, hc, fun h0 => ⟨(ha h0).1, by have := (ha h0).2; simp; omega⟩, fun j hj => hk0.cell_some (hx j hj) (by simp)⟩)
  have HB0 := hid hb0
  have HK0 := hid hk0
  clear h hc ha hx hb0 hk0
  go_enter Tryz.func11, Tryz.ntmps11
  go_wp2_with fail
  refine HO.out.mono ?_
  rintro e w1 ⟨rfl, hK, hR⟩
  have hz : (w.alloc (.cells #[.int .i64 0, .string ⟨#[]⟩, .slice none 0 0, .string ⟨#[]⟩] 25)).heap.size = w.heap.size + 1 := by simp
  rw [hz] at hR
  have HB1 := hid (hK.same HB0.out (by simp))
  have HK1 := hid (HK0.out.trans hK)
  have HR1 := hid hR
  clear HB0 HK0 HO hK hR hz
  go_wp2_with fail
  refine (l92Users_any (w.heap.size + 1) 0 _ HR1.out (by omega)).mono ?_
  rintro e w2 ⟨uv, us, rfl, hu, -, -, -, hK, hR⟩
  have HU2 := hid (hu.low (lo' := w.heap.size + 1 + 1) (by have := HR1.out.lt; omega))
  have HB2 := hid (hK.same HB1.out (by simp))
  have HK2 := hid (HK1.out.newB hK (Nat.le_succ _))
  have HR2 := hid hR
  obtain ⟨ua, ucap, rfl⟩ := users_form hu
  clear HB1 HK1 HR1 hK hR hu
  go_wp2_with fail
  refine (l92Sub_any (w.heap.size + 1) (0 + 10) _ us _ HR2.out (by omega) HU2.out).mono ?_
  rintro e w3 ⟨sv, s, rfl, hs, hsu, hK, hR⟩
  obtain ⟨tv, rfl, hst, hul, htl⟩ := hs
  obtain ⟨ta, tcap, rfl⟩ := hst.form
  have HS3 := hid (hst.low (lo' := w.heap.size + 1 + 1) (by have := HR2.out.lt; omega))
  have HL := hid (And.intro hul (And.intro htl hsu))
  have HU3 := hid (HU2.out.kept hK (by simp))
  have HB3 := hid (hK.same HB2.out (by simp))
  have HK3 := hid (HK2.out.newB hK (Nat.le_succ _))
  have HR3 := hid hR
  clear HB2 HK2 HR2 hK hR hst hul htl hsu HU2
  go_wp2_with fail
  refine calls_world (fun W => W.heap[w3.heap.size]? = some (.cells #[.int .i64 s.stage, .string (bs s.user), .slice ta s.to.length tcap, .string (bs s.text)] 25 (0, 0)) ∧ Kept [] w3 W) ⟨new_block w3 _, (Kept.refl _ _).alloc _⟩ ?_
  rintro W ⟨hp, hK⟩
  have hps : w.heap.size + 1 < w3.heap.size := HR3.out.lt
  have HP3 := hid hp
  have HS4 := hid (HS3.out.kept0 hK)
  have HU4 := hid (HU3.out.kept0 hK)
  have HB4 := hid (hK.same HB3.out (by simp))
  have HK4 := hid (HK3.out.trans hK)
  have HR4 := hid (HR3.out.kept hK)
  clear HB3 HK3 HR3 hK HS3 HU3 hp
  refine (pick_any (w.heap.size + 1) (0 + 10 + 300) 12 _ HR4.out (by omega) (by omega)).mono ?_
  rintro e w5 ⟨x, rfl, x0, -, -, hK, hR⟩
  have HP5 := hid (hK.same HP3.out (by simp; omega))
  have HS5 := hid (HS4.out.kept hK (by simp))
  have HU5 := hid (HU4.out.kept hK (by simp))
  have HB5 := hid (hK.same HB4.out (by simp))
  have HK5 := hid (HK4.out.newB hK (Nat.le_succ _))
  have HR5 := hid hR
  clear HB4 HK4 HR4 hK hR HS4 HU4 HP3
  by_cases hx : x = 0
  · subst hx
    go_wp2_with fail
    refine (l91Domain_any (w.heap.size + 1) (0 + 10 + 300 + 1) _ HR5.out (by omega)).mono ?_
    rintro e w6 ⟨d, rfl, hd, hK, hR⟩
    have HP6 := hid (hK.same HP5.out (by simp; omega))
    have HS6 := hid (HS5.out.kept hK (by simp))
    have HU6 := hid (HU5.out.kept hK (by simp))
    have HB6 := hid (hK.same HB5.out (by simp))
    have HK6 := hid (HK5.out.newB hK (Nat.le_succ _))
    have HR6 := hid hR
    clear HB5 HK5 HR5 hK hR HS5 HU5 HP5
    have hp := HP6.out
    have a0 := cell_of_block hp 0
    have a1 := cell_of_block hp 1
    have a2 := cell_of_block hp 2
    have a3 := cell_of_block hp 3
    have g0 := frozen_of_block hp 0
    have g1 := frozen_of_block hp 1
    have g2 := frozen_of_block hp 2
    have g3 := frozen_of_block hp 3
    simp at a0 a1 a2 a3
    clear hp
    have hz := HB6.out
    have z0 := cell_of_block hz 0
    have z1 := cell_of_block hz 1
    have z2 := cell_of_block hz 2
    have z3 := cell_of_block hz 3
    have f0 := frozen_of_block hz 0
    have f1 := frozen_of_block hz 1
    have f2 := frozen_of_block hz 2
    have f3 := frozen_of_block hz 3
    simp at z0 z1 z2 z3
    have hzl := lt_of_block hz
    clear hz
    have CK := hid (fun w' (h : Kept [w.heap.size + 1, w.heap.size] w6 w') => show w'.cell? ⟨w3.heap.size, 0, none⟩ = some (.int .i64 s.stage) ∧ w'.cell? ⟨w3.heap.size, 1, none⟩ = some (.string (bs s.user)) ∧ w'.cell? ⟨w3.heap.size, 2, none⟩ = some (.slice ta s.to.length tcap) ∧ w'.cell? ⟨w3.heap.size, 3, none⟩ = some (.string (bs s.text)) from by
      have hb := h.same HP6.out (by simp; omega)
      exact ⟨by rw [cell_of_block hb]; rfl, by rw [cell_of_block hb]; rfl, by rw [cell_of_block hb]; rfl, by rw [cell_of_block hb]; rfl⟩)
    have HC1 := hid (fun W (h : Kept [] w6 W) => l92Command_any (w.heap.size + 1) (0 + 10 + 300 + 1 + 2) s (.agg #[.int .i64 s.stage, .string (bs s.user), .slice ta s.to.length tcap, .string (bs s.text)]) (.slice ua us.length ucap) us W (HR6.out.kept h) (by omega) ⟨_, rfl, (HS6.out.kept0 h).low (Nat.zero_le _), HL.out.1, HL.out.2.1⟩ HL.out.2.2 (HU6.out.kept0 h))
    go_wp2
    go_region_held3 (fun w' => w'.cell? ⟨w3.heap.size, 0, none⟩ = some (.int .i64 s.stage) ∧ w'.cell? ⟨w3.heap.size, 1, none⟩ = some (.string (bs s.user)) ∧ w'.cell? ⟨w3.heap.size, 2, none⟩ = some (.slice ta s.to.length tcap) ∧ w'.cell? ⟨w3.heap.size, 3, none⟩ = some (.string (bs s.text)))
      (first
        | go_keep
        | exact CK.out _ (by repeat' with_reducible first | exact hKK2 | exact Kept.refl _ _ | refine Kept.setCell ?_ _ _ (by simp) | refine Kept.drew ?_ | refine Kept.alloc ?_ _))
      (first
        | (go_at_call 22
           refine (HC1.out _ ?_).mono ?_
           · repeat' with_reducible first | exact Kept.refl _ _ | refine Kept.drew ?_ | refine Kept.alloc ?_ _
           rintro e w7 ⟨l, rfl, hl, hK, hR2⟩
           have hKK1 : Kept [w.heap.size + 1] w6 w7 := Kept.trans (by repeat' with_reducible first | exact Kept.refl _ _ | refine Kept.drew ?_ | refine Kept.alloc ?_ _) hK
           have hKK2 : Kept [w.heap.size + 1, w.heap.size] w6 w7 := hKK1.mono (fun x hx _ => by simp at hx ⊢; exact .inl hx)
           have hz7 := hKK1.same HB6.out (by simp)
           have z0 := cell_of_block hz7 0
           have z1 := cell_of_block hz7 1
           have z2 := cell_of_block hz7 2
           have z3 := cell_of_block hz7 3
           have f0 := frozen_of_block hz7 0
           have f1 := frozen_of_block hz7 1
           have f2 := frozen_of_block hz7 2
           have f3 := frozen_of_block hz7 3
           simp at z0 z1 z2 z3
           have hzl7 := lt_of_block hz7))
    all_goals
      go_wp2
      have kz : Kept [w.heap.size] w7 ((((w7.setCell ⟨w.heap.size, 0, none⟩ (.int .i64 s.stage)).setCell ⟨w.heap.size, 1, none⟩ (.string (bs s.user))).setCell ⟨w.heap.size, 2, none⟩ (.slice ta s.to.length tcap)).setCell ⟨w.heap.size, 3, none⟩ (.string (bs s.text))) := by
        repeat' first | exact Kept.refl _ _ | refine Kept.setCell ?_ _ _ (by simp)
      refine bodyPost_ret (v := .tuple #[.agg #[.int .i64 s.stage, .string (bs s.user), .slice ta s.to.length tcap, .string (bs s.text)], .slice ua us.length ucap, .string (bs d), .string (bs l)]) (by simp [results, Tryz.results11, go_sem, z0, z1, z2, z3]) rfl ?_
      exact ⟨_, _, s, us, d, l, rfl, ⟨_, rfl, (((HS6.out.kept hKK1 (by simp)).kept kz (by simp; omega)).low (Nat.zero_le _)), HL.out.1, HL.out.2.1⟩, (((HU6.out.kept hKK1 (by simp)).kept kz (by simp; omega)).low (Nat.zero_le _)), hd, hl, (HK6.out.newB hKK1 (Nat.le_succ _)).newB kz (Nat.le_refl _)⟩
  · have hx' : (x == 0) = false := by rw [beq_eq_false_iff_ne]; exact hx
    obtain ⟨d, hd, hdd⟩ : ∃ d : List UInt8, d.length ≤ 40 ∧ (⟨#[104, 111, 115, 116, 46, 111, 114, 103]⟩ : ByteArray) = bs d := ⟨[104, 111, 115, 116, 46, 111, 114, 103], by decide, rfl⟩
    have HP6 := HP5
    have HS6 := HS5
    have HU6 := HU5
    have HB6 := HB5
    have HK6 := HK5
    have HR6 := hid (HR5.out.mono (show 0 + 10 + 300 + 1 ≤ 0 + 10 + 300 + 1 + 2 by omega))
    clear HB5 HK5 HR5 HS5 HU5 HP5
    rw [hdd]
    clear hdd
    generalize w5 = w6 at *
    have hp := HP6.out
    have a0 := cell_of_block hp 0
    have a1 := cell_of_block hp 1
    have a2 := cell_of_block hp 2
    have a3 := cell_of_block hp 3
    have g0 := frozen_of_block hp 0
    have g1 := frozen_of_block hp 1
    have g2 := frozen_of_block hp 2
    have g3 := frozen_of_block hp 3
    simp at a0 a1 a2 a3
    clear hp
    have hz := HB6.out
    have z0 := cell_of_block hz 0
    have z1 := cell_of_block hz 1
    have z2 := cell_of_block hz 2
    have z3 := cell_of_block hz 3
    have f0 := frozen_of_block hz 0
    have f1 := frozen_of_block hz 1
    have f2 := frozen_of_block hz 2
    have f3 := frozen_of_block hz 3
    simp at z0 z1 z2 z3
    have hzl := lt_of_block hz
    clear hz
    have CK := hid (fun w' (h : Kept [w.heap.size + 1, w.heap.size] w6 w') => show w'.cell? ⟨w3.heap.size, 0, none⟩ = some (.int .i64 s.stage) ∧ w'.cell? ⟨w3.heap.size, 1, none⟩ = some (.string (bs s.user)) ∧ w'.cell? ⟨w3.heap.size, 2, none⟩ = some (.slice ta s.to.length tcap) ∧ w'.cell? ⟨w3.heap.size, 3, none⟩ = some (.string (bs s.text)) from by
      have hb := h.same HP6.out (by simp; omega)
      exact ⟨by rw [cell_of_block hb]; rfl, by rw [cell_of_block hb]; rfl, by rw [cell_of_block hb]; rfl, by rw [cell_of_block hb]; rfl⟩)
    have HC1 := hid (fun W (h : Kept [] w6 W) => l92Command_any (w.heap.size + 1) (0 + 10 + 300 + 1 + 2) s (.agg #[.int .i64 s.stage, .string (bs s.user), .slice ta s.to.length tcap, .string (bs s.text)]) (.slice ua us.length ucap) us W (HR6.out.kept h) (by omega) ⟨_, rfl, (HS6.out.kept0 h).low (Nat.zero_le _), HL.out.1, HL.out.2.1⟩ HL.out.2.2 (HU6.out.kept0 h))
    go_wp2
    go_region_held3 (fun w' => w'.cell? ⟨w3.heap.size, 0, none⟩ = some (.int .i64 s.stage) ∧ w'.cell? ⟨w3.heap.size, 1, none⟩ = some (.string (bs s.user)) ∧ w'.cell? ⟨w3.heap.size, 2, none⟩ = some (.slice ta s.to.length tcap) ∧ w'.cell? ⟨w3.heap.size, 3, none⟩ = some (.string (bs s.text)))
      (first
        | go_keep
        | exact CK.out _ (by repeat' with_reducible first | exact hKK2 | exact Kept.refl _ _ | refine Kept.setCell ?_ _ _ (by simp) | refine Kept.drew ?_ | refine Kept.alloc ?_ _))
      (first
        | (go_at_call 22
           refine (HC1.out _ ?_).mono ?_
           · repeat' with_reducible first | exact Kept.refl _ _ | refine Kept.drew ?_ | refine Kept.alloc ?_ _
           rintro e w7 ⟨l, rfl, hl, hK, hR2⟩
           have hKK1 : Kept [w.heap.size + 1] w6 w7 := Kept.trans (by repeat' with_reducible first | exact Kept.refl _ _ | refine Kept.drew ?_ | refine Kept.alloc ?_ _) hK
           have hKK2 : Kept [w.heap.size + 1, w.heap.size] w6 w7 := hKK1.mono (fun x hx _ => by simp at hx ⊢; exact .inl hx)
           have hz7 := hKK1.same HB6.out (by simp)
           have z0 := cell_of_block hz7 0
           have z1 := cell_of_block hz7 1
           have z2 := cell_of_block hz7 2
           have z3 := cell_of_block hz7 3
           have f0 := frozen_of_block hz7 0
           have f1 := frozen_of_block hz7 1
           have f2 := frozen_of_block hz7 2
           have f3 := frozen_of_block hz7 3
           simp at z0 z1 z2 z3
           have hzl7 := lt_of_block hz7))
    all_goals
      go_wp2
      have kz : Kept [w.heap.size] w7 ((((w7.setCell ⟨w.heap.size, 0, none⟩ (.int .i64 s.stage)).setCell ⟨w.heap.size, 1, none⟩ (.string (bs s.user))).setCell ⟨w.heap.size, 2, none⟩ (.slice ta s.to.length tcap)).setCell ⟨w.heap.size, 3, none⟩ (.string (bs s.text))) := by
        repeat' first | exact Kept.refl _ _ | refine Kept.setCell ?_ _ _ (by simp)
      refine bodyPost_ret (v := .tuple #[.agg #[.int .i64 s.stage, .string (bs s.user), .slice ta s.to.length tcap, .string (bs s.text)], .slice ua us.length ucap, .string (bs d), .string (bs l)]) (by simp [results, Tryz.results11, go_sem, z0, z1, z2, z3]) rfl ?_
      exact ⟨_, _, s, us, d, l, rfl, ⟨_, rfl, (((HS6.out.kept hKK1 (by simp)).kept kz (by simp; omega)).low (Nat.zero_le _)), HL.out.1, HL.out.2.1⟩, (((HU6.out.kept hKK1 (by simp)).kept kz (by simp; omega)).low (Nat.zero_le _)), hd, hl, (HK6.out.newB hKK1 (Nat.le_succ _)).newB kz (Nat.le_refl _)⟩
end Go.Proofs.YtahiahboneljaaaGreatDoor
