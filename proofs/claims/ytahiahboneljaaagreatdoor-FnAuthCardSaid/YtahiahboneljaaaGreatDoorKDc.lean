/- The walks of the draws: receivers and lines. -/
import Derived.Test.YtahiahboneljaaaGreatDoorKDb
import Derived.Deep.AppendLies
namespace Go.Proofs.YtahiahboneljaaaGreatDoor
open Go.RowKit

/-- The row of receivers that a draw makes, beside the block gn of names. -/
def TO (w0 : World) (gn rb N : Nat) (w : World) (v : Value) (D : List (List UInt8)) : Prop :=
  ∃ g cap, v = .slice (some ⟨g, 0, none⟩) D.length cap ∧ w.ownsRow w0.heap.size 9 1 v D.length (D.map sv) ∧ g ≠ gn ∧
    w.heap[gn]? = some (.cells #[.string (bs [97, 109, 121]), .string (bs [98, 111, 98]), .string (bs [99, 121, 100]), .string (bs [100, 97, 110])] 9 (0, 0)) ∧
    w0.heap.size ≤ gn ∧ rb < w0.heap.size ∧ (∀ l ∈ D, l.length ≤ 40) ∧ Kept [rb] w0 w ∧ RdAt w rb N

theorem TO.on {w0 w w' : World} {gn rb N M : Nat} {v : Value} {D : List (List UInt8)} (h : TO w0 gn rb N w v D) (k : Kept [rb] w w') (r : RdAt w' rb M) : TO w0 gn rb M w' v D := by
  obtain ⟨g, cap, hv, ho, hg, hn, h1, h2, hl, hk, hr⟩ := h
  exact ⟨g, cap, hv, own_kept ho k (by simpa using h2), hg, k.same hn (by simp; omega), h1, h2, hl, hk.trans k, r⟩
theorem TO.on0 {w0 w w' : World} {gn rb N : Nat} {v : Value} {D : List (List UInt8)} (h : TO w0 gn rb N w v D) (k : Kept [] w w') : TO w0 gn rb N w' v D := by
  obtain ⟨g, cap, hv, ho, hg, hn, h1, h2, hl, hk, hr⟩ := h
  exact ⟨g, cap, hv, own_kept ho k (by simp), hg, k.same hn (by simp), h1, h2, hl, hk.trans k.nil, hr.kept k⟩

theorem append_to {w0 w1 : World} {gn rb N : Nat} {D : List (List UInt8)} {ops : Array Oper} {rest : List Oper} {o : Oper} {a : Act} {Q : Exit → Act → World → Prop} (hgd : o.guard = none) (s x : Operand)
    (ho : o.op = .call { callee := .builtin .append, args := #[s, x], argTypes := #[23, 23] }) (v : Value) (hs : a.eval s = v) (hT : TO w0 gn rb N w1 v D)
    (news : List (List UInt8)) (hx : a.eval x = .slice (some ⟨w1.heap.size, 0, none⟩) news.length news.length) (h0 : 0 < news.length) (hn : D.length + news.length ≤ 100) (hnl : ∀ l ∈ news, l.length ≤ 40)
    (h : ∀ g cap w', TO w0 gn rb N w' (.slice (some ⟨g, 0, none⟩) (D.length + news.length) cap) (D ++ news) → wpList Tryz.prog ops Q rest (a.put o.dst (.slice (some ⟨g, 0, none⟩) (D.length + news.length) cap)) w') :
    wpList Tryz.prog ops Q (o :: rest) a (w1.alloc (.cells (news.map sv).toArray 9)) := by
  obtain ⟨i0, hi, hz0, hz1, hz2⟩ := info_parts inf_string
  have hT2 := hT.on0 ((Kept.refl [] w1).alloc (.cells (news.map sv).toArray 9))
  obtain ⟨g, cap, rfl, hown, hg, hgn, h1, h2, hl, hk, hr⟩ := hT2
  have hgb := own_ge hown
  have hgl : gn < w1.heap.size := by obtain ⟨_, _, _, _, _, q, _⟩ := hT; exact lt_of_block q
  refine wpList_append_lies _ hgd s x 23 ho w0.heap.size 9 i0 _ 1 16 Tryz.underlying23 hi hz0 hz1 hz2 rfl (by decide) _ D.length (D.map sv) hs hown ⟨w1.heap.size, 0, none⟩ news.length news.length (news.map sv) hx (by simp) ?_ ?_ h0 ?_ ?_ ?_ _ rfl (fun g' cap' w' o1 o2 o3 o4 => ?_)
  · intro j u hj
    rw [Addr.add_lit, Nat.zero_add, cell_of_block (new_block w1 _)]
    simpa using hj
  · intro u hu; obtain ⟨y, -, rfl⟩ := List.mem_map.1 hu; rfl
  · unfold maxLen; omega
  · omega
  · have := hk.size; exact this
  · refine h g' cap' w' ⟨g', cap', by rw [List.length_append], by rw [List.length_append, List.map_append]; exact o1, ?_, ?_, h1, h2, ?_, ?_, ?_⟩
    · rcases o3 with e | e
      · have e : some g = some g' := e
        injection e with e; omega
      · rw [e]; simp; omega
    · have k : Kept [g] (w1.alloc (.cells (news.map sv).toArray 9)) w' := (Kept.refl [g] _).grown o2 (by intro k e _; have e : some g = some k := e; injection e with e; simp [← e])
      exact k.same hgn (by simp; omega)
    · intro l hm
      rcases List.mem_append.1 hm with q | q
      · exact hl l q
      · exact hnl l q
    · exact hk.grown o2 (by intro k e hk; have e : some g = some k := e; injection e with e; omega)
    · exact hr.keptB (cs := [g]) ((Kept.refl [g] _).grown o2 (by intro k e _; have e : some g = some k := e; injection e with e; simp [← e])) (by simp; omega)
end Go.Proofs.YtahiahboneljaaaGreatDoor
namespace Go.Proofs.YtahiahboneljaaaGreatDoor
open Go.RowKit

/-- What a draw of receivers hands back. -/
def ToRes (rb N : Nat) (w : World) (e : Ending) (w' : World) : Prop :=
  ∃ v, ∃ L : List (List UInt8), e = .returned v ∧ StrsAt w.heap.size w' v L ∧ L.length ≤ 6 ∧ (∀ l ∈ L, l.length ≤ 40) ∧ Kept [rb] w w' ∧ RdAt w' rb N

theorem TO.res {w0 w : World} {gn rb N M : Nat} {v : Value} {D : List (List UInt8)} (h : TO w0 gn rb M w v D) (hD : D.length ≤ 6) (hM : M ≤ N) : ToRes rb N w0 (.returned v) w := by
  obtain ⟨g, cap, rfl, ho, hg, hn, h1, h2, hl, hk, hr⟩ := h
  refine ⟨_, D, rfl, ?_, hD, hl, hk, hr.mono hM⟩
  rcases Nat.eq_zero_or_pos D.length with h0 | h0
  · have : D = [] := List.eq_nil_of_length_eq_zero h0
    subst this
    exact ⟨_, cap, g, 0, rfl, by simp, by simp, fun h => by simp at h, fun j hj => by simp at hj⟩
  · obtain ⟨g', cap', hv, hgb, hgl, hc⟩ := own_strs ho h0
    injection hv with e1 e2 e3
    injection e1 with e1
    injection e1 with e1
    subst e1 e3
    have hcap : D.length ≤ cap := by
      obtain ⟨g2, cap2, hv2, _, _, hc2, _⟩ := own_open ho h0
      injection hv2 with a1 a2 a3; omega
    refine ⟨_, cap, g, 0, rfl, by unfold bigN; omega, hcap, fun _ => ⟨rfl, hgb, hgl⟩, fun j hj => ⟨by rw [Nat.zero_add]; exact hc j hj, ?_⟩⟩
    have := hl _ (List.getElem_mem hj); unfold bigN; omega
theorem TO.cut {w0 w : World} {gn rb N M g n cap : Nat} {D : List (List UInt8)} (h : TO w0 gn rb M w (.slice (some ⟨g, 0, none⟩) n cap) D) (hM : M ≤ N) : ToRes rb N w0 (.returned (.slice (some ⟨g, 0, none⟩) 0 cap)) w := by
  obtain ⟨g', cap', hv, ho, hg, hn, h1, h2, hl, hk, hr⟩ := h
  exact ⟨_, [], rfl, ⟨_, cap, g, 0, rfl, by simp, by simp, fun h => by simp at h, fun j hj => by simp at hj⟩, by simp, by simp, hk, hr.mono hM⟩
theorem TO.start {w : World} {rb N : Nat} (h : RdAt w rb N) : TO w (w.heap.size + 1) rb N ((w.alloc (.cells #[] 9)).alloc (.cells #[.string (bs [97, 109, 121]), .string (bs [98, 111, 98]), .string (bs [99, 121, 100]), .string (bs [100, 97, 110])] 9)) (.slice (some ⟨w.heap.size, 0, none⟩) 0 0) [] := by
  have hlt := h.lt
  refine ⟨w.heap.size, 0, rfl, own_empty (alloc_block (new_block w _) _) (Nat.le_refl _), by omega, ?_, by omega, hlt, by simp, ((Kept.refl [rb] w).alloc _).alloc _, h.kept (((Kept.refl [] w).alloc _).alloc _)⟩
  have := new_block (w.alloc (.cells #[] 9)) (.cells #[.string (bs [97, 109, 121]), .string (bs [98, 111, 98]), .string (bs [99, 121, 100]), .string (bs [100, 97, 110])] 9)
  simpa using this

theorem TO.first {w0 w : World} {gn rb M g n cap : Nat} {D : List (List UInt8)} (h : TO w0 gn rb M w (.slice (some ⟨g, 0, none⟩) n cap) D) (h0 : 0 < D.length) : ∃ d : List UInt8, d.length ≤ 40 ∧ w.cell? ⟨g, 0, none⟩ = some (.string (bs d)) := by
  obtain ⟨g', cap', hv, ho, hg, hn, h1, h2, hl, hk, hr⟩ := h
  obtain ⟨g2, cap2, hv2, hgb, hgl, hc⟩ := own_strs ho h0
  injection hv2 with e1 e2 e3
  injection e1 with e1
  injection e1 with e1
  subst e1
  exact ⟨D[0], hl _ (List.getElem_mem h0), hc 0 h0⟩

set_option maxHeartbeats 2000000 in
set_option maxRecDepth 100000 in
theorem l92To_any (rb N : Nat) (w : World) (h : RdAt w rb N) (hN : N ≤ 999980) :
    Calls Tryz.prog 36 #[.pointer (some ⟨rb, 0, none⟩)] w (ToRes rb (N + 10) w) := by
  have HT := hid (TO.start h)
  have HP := hid (fun M (hM : M ≤ 20) n w h (hn : n ≤ 1000) => pick_any rb (N + M) n w h (by omega) (by omega))
  clear h hN
  go_enter Tryz.func36, Tryz.ntmps36
  go_wp2
  go_loopg [3, 5] 3 (fun m v i wr => ∃ (k g cap : Nat) (D : List (List UInt8)), m = 3 - k ∧ k ≤ 3 ∧ i = .int .i64 k ∧ v = .slice (some ⟨g, 0, none⟩) D.length cap ∧ D.length ≤ k ∧ TO w (w.heap.size + 1) rb (N + k) wr v D)
  case atStart => exact ⟨0, w.heap.size, 0, [], rfl, Nat.zero_le _, rfl, rfl, Nat.zero_le _, HT.out⟩
  case round =>
    obtain ⟨k, g, cap, D, hm, hk, rfl, rfl, hD, hT⟩ := hrel
    have HM := hid hm
    have HT1 := hid hT
    clear hm hT HT
    by_cases hlt : k < 3
    · have hlt' : (k : Int) < 3 := by omega
      have hr : RdAt wr rb (N + k) := by obtain ⟨_, _, _, _, _, _, _, _, _, _, r⟩ := HT1.out; exact r
      have HR := hid hr
      clear hr
      go_wp2_with fail
      refine (HP.out k (by omega) 2 _ HR.out (by omega)).mono ?_
      rintro e w1 ⟨x, rfl, x0, x1, -, hK, hR⟩
      have HT2 := hid (HT1.out.on hK hR)
      have hn : w1.heap[w.heap.size + 1]? = some (.cells #[.string (bs [97, 109, 121]), .string (bs [98, 111, 98]), .string (bs [99, 121, 100]), .string (bs [100, 97, 110])] 9 (0, 0)) := by obtain ⟨_, _, _, _, _, q, _⟩ := HT2.out; exact q
      clear hK hR HR HT1 x1
      by_cases hx : x = 0
      · subst hx
        have n0 := cell_of_block hn 0
        have n1 := cell_of_block hn 1
        have n2 := cell_of_block hn 2
        simp at n0 n1 n2
        clear hn
        rcases (by omega : k = 0 ∨ k = 1 ∨ k = 2) with rfl | rfl | rfl
        · go_wp2_with (at_builtin; refine append_to rfl (.tmp 15) (.tmp 20) rfl _ rfl HT2.out [[97, 109, 121]] rfl (by simp) (by simp; omega) (by simp) ?_; intro g' cap' w2 hT2)
          go_roundg (3 - (0 + 1))
          case measure => have := HM.out; omega
          case rel => exact ⟨1, g', cap', D ++ [[97, 109, 121]], rfl, by omega, rfl, by simp, by rw [List.length_append]; simp only [List.length_cons, List.length_nil]; omega, hT2⟩
        · go_wp2_with (at_builtin; refine append_to rfl (.tmp 15) (.tmp 20) rfl _ rfl HT2.out [[98, 111, 98]] rfl (by simp) (by simp; omega) (by simp) ?_; intro g' cap' w2 hT2)
          go_roundg (3 - (1 + 1))
          case measure => have := HM.out; omega
          case rel => exact ⟨2, g', cap', D ++ [[98, 111, 98]], rfl, by omega, rfl, by simp, by rw [List.length_append]; simp only [List.length_cons, List.length_nil]; omega, hT2⟩
        · go_wp2_with (at_builtin; refine append_to rfl (.tmp 15) (.tmp 20) rfl _ rfl HT2.out [[99, 121, 100]] rfl (by simp) (by simp; omega) (by simp) ?_; intro g' cap' w2 hT2)
          go_roundg (3 - (2 + 1))
          case measure => have := HM.out; omega
          case rel => exact ⟨3, g', cap', D ++ [[99, 121, 100]], rfl, by omega, rfl, by simp, by rw [List.length_append]; simp only [List.length_cons, List.length_nil]; omega, hT2⟩
      · have hx' : (x == 0) = false := by rw [beq_eq_false_iff_ne]; exact hx
        clear hn
        go_wp2
        go_roundg (3 - (k + 1))
        case measure => have := HM.out; omega
        case rel => exact ⟨k + 1, g, cap, D, rfl, by omega, by go_num, rfl, by omega, HT2.out⟩
    · obtain rfl : k = 3 := by omega
      have hr : RdAt wr rb (N + 3) := by obtain ⟨_, _, _, _, _, _, _, _, _, _, r⟩ := HT1.out; exact r
      have HR := hid hr
      clear hr hlt hk HM
      by_cases hD0 : D.length = 0
      · have hnil : D = [] := List.eq_nil_of_length_eq_zero hD0
        subst hnil
        go_wp2_with fail
        refine (HP.out 3 (by omega) 4 _ HR.out (by omega)).mono ?_
        rintro e w1 ⟨x, rfl, x0, x1, -, hK, hR⟩
        have HT2 := hid (HT1.out.on hK hR)
        have hn : w1.heap[w.heap.size + 1]? = some (.cells #[.string (bs [97, 109, 121]), .string (bs [98, 111, 98]), .string (bs [99, 121, 100]), .string (bs [100, 97, 110])] 9 (0, 0)) := by obtain ⟨_, _, _, _, _, q, _⟩ := HT2.out; exact q
        have hx1 := x1 (by omega)
        obtain ⟨j, rfl⟩ := Int.eq_ofNat_of_zero_le x0
        obtain ⟨l, hl, hc⟩ : ∃ l : List UInt8, l.length ≤ 40 ∧ w1.cell? ⟨w.heap.size + 1, j, none⟩ = some (.string (bs l)) := by
          rcases (by omega : j = 0 ∨ j = 1 ∨ j = 2 ∨ j = 3) with rfl | rfl | rfl | rfl
          · exact ⟨[97, 109, 121], by decide, by rw [cell_of_block hn]; rfl⟩
          · exact ⟨[98, 111, 98], by decide, by rw [cell_of_block hn]; rfl⟩
          · exact ⟨[99, 121, 100], by decide, by rw [cell_of_block hn]; rfl⟩
          · exact ⟨[100, 97, 110], by decide, by rw [cell_of_block hn]; rfl⟩
        clear hK hR HR HT1 x1 hn
        have hj : j < 4 := by omega
        go_wp2_with (at_builtin; refine append_to rfl (.tmp 25) (.tmp 31) rfl _ rfl HT2.out [l] rfl (by simp) (by simp) (by simpa using hl) ?_; intro g3 cap3 w3 hT3)
        have HT3 := hid hT3
        clear hT3 hc HT2
        have hr : RdAt w3 rb (N + 4) := by obtain ⟨_, _, _, _, _, _, _, _, _, _, r⟩ := HT3.out; exact r
        refine (HP.out 4 (by omega) 20 _ hr (by omega)).mono ?_
        rintro e w4 ⟨y, rfl, y0, -, -, hK, hR⟩
        have HT4 := hid (HT3.out.on hK hR)
        clear hK hR hr
        by_cases h0 : y = 0
        · subst h0
          obtain ⟨d, hd, hc0⟩ := HT4.out.first (by simp)
          go_wp2_with (at_builtin; refine append_to rfl (.tmp 37) (.tmp 41) rfl _ rfl HT4.out [d] rfl (by simp) (by simp) (by simpa using hd) ?_; intro g5 cap5 w5 hT5)
          go_ret
          exact hT5.res (by simp) (by omega)
        · by_cases h1 : y = 1
          · subst h1
            go_wp2
            go_ret
            exact HT4.out.cut (by omega)
          · by_cases h2 : y = 2
            · subst h2
              go_wp2_with (at_builtin; refine append_to rfl (.tmp 49) (.tmp 50) rfl _ rfl HT4.out [[100, 97, 110], [101, 118, 101]] rfl (by simp) (by simp) (by simp) ?_; intro g5 cap5 w5 hT5)
              go_ret
              exact hT5.res (by simp) (by omega)
            · have e0 : (y == 0) = false := by rw [beq_eq_false_iff_ne]; exact h0
              have e1 : (y == 1) = false := by rw [beq_eq_false_iff_ne]; exact h1
              have e2 : (y == 2) = false := by rw [beq_eq_false_iff_ne]; exact h2
              go_wp2
              go_ret
              exact HT4.out.res (by simp) (by omega)
      · have hDp : 0 < D.length := by omega
        have hDi : (0 : Int) < D.length := by omega
        have hDn : ((D.length : Int) == 0) = false := by rw [beq_eq_false_iff_ne]; omega
        clear HR
        go_wp2_with fail
        have hr : RdAt wr rb (N + 3) := by obtain ⟨_, _, _, _, _, _, _, _, _, _, r⟩ := HT1.out; exact r
        refine (HP.out 3 (by omega) 20 _ hr (by omega)).mono ?_
        rintro e w4 ⟨y, rfl, y0, -, -, hK, hR⟩
        have HT4 := hid (HT1.out.on hK hR)
        clear hK hR hr
        by_cases h0 : y = 0
        · subst h0
          obtain ⟨d, hd, hc0⟩ := HT4.out.first (by (try simp only [List.length_append, List.length_cons, List.length_nil]); omega)
          go_wp2_with (at_builtin; refine append_to rfl (.tmp 37) (.tmp 41) rfl _ rfl HT4.out [d] rfl (by simp) (by (try simp only [List.length_cons, List.length_nil]); omega) (by simpa using hd) ?_; intro g5 cap5 w5 hT5)
          go_ret
          exact hT5.res (by (try simp only [List.length_append, List.length_cons, List.length_nil]); omega) (by omega)
        · by_cases h1 : y = 1
          · subst h1
            go_wp2
            go_ret
            exact HT4.out.cut (by omega)
          · by_cases h2 : y = 2
            · subst h2
              go_wp2_with (at_builtin; refine append_to rfl (.tmp 49) (.tmp 50) rfl _ rfl HT4.out [[100, 97, 110], [101, 118, 101]] rfl (by simp) (by (try simp only [List.length_cons, List.length_nil]); omega) (by simp) ?_; intro g5 cap5 w5 hT5)
              go_ret
              exact hT5.res (by (try simp only [List.length_append, List.length_cons, List.length_nil]); omega) (by omega)
            · have e0 : (y == 0) = false := by rw [beq_eq_false_iff_ne]; exact h0
              have e1 : (y == 1) = false := by rw [beq_eq_false_iff_ne]; exact h1
              have e2 : (y == 2) = false := by rw [beq_eq_false_iff_ne]; exact h2
              go_wp2
              go_ret
              exact HT4.out.res (by (try simp only [List.length_append, List.length_cons, List.length_nil]); omega) (by omega)
end Go.Proofs.YtahiahboneljaaaGreatDoor
namespace Go.Proofs.YtahiahboneljaaaGreatDoor
open Go.RowKit

/-- What a draw of a line hands back. -/
def LnRes (rb N : Nat) (w : World) (e : Ending) (w' : World) : Prop := ∃ l : List UInt8, e = .returned (.string (bs l)) ∧ l.length ≤ 200 ∧ Kept [rb] w w' ∧ RdAt w' rb N
theorem LnRes.of {rb N M : Nat} {w w1 w' : World} {e : Ending} (h : StrRes rb M w1 e w') (k : Kept [rb] w w1) (hM : M ≤ N) : LnRes rb N w e w' := by
  obtain ⟨l, he, hl, hk, hr⟩ := h
  exact ⟨l, he, by omega, k.trans hk, hr.mono hM⟩
theorem makeP_le (u p : List UInt8) : (makeP u p).length ≤ 100 := by
  unfold makeP
  split
  · next h =>
    have h1 := isName_len h.1
    have h2 := isName_len h.2
    rw [enc_len]; simp; omega
  · simp

theorem of_blk (rb N : Nat) (xs : List (List UInt8)) (g : Nat) (w : World) (h : RdAt w rb N) (hN : N ≤ 1000000) (hg : rb < g) (hb : w.heap[g]? = some (.cells (xs.map (fun l => Value.string (bs l))).toArray 9 (0, 0))) (hx : ∀ l ∈ xs, l.length ≤ 40) (hl : xs.length ≤ 100) (h0 : 0 < xs.length) :
    Calls Tryz.prog 37 #[.pointer (some ⟨rb, 0, none⟩), .slice (some ⟨g, 0, none⟩) xs.length xs.length] w (StrRes rb (N + 1) w) := by
  refine (of_any rb N xs _ w h hN ⟨_, _, g, 0, rfl, by unfold bigN; omega, Nat.le_refl _, fun _ => ⟨rfl, hg, lt_of_block hb⟩, fun j hj => ⟨by rw [cell_of_block hb]; simp [hj], by have := hx _ (List.getElem_mem hj); unfold bigN; omega⟩⟩ h0 hl).mono ?_
  rintro e w' ⟨l, hm, rfl, hK, hR⟩
  exact ⟨l, rfl, hx l hm, hK, hR⟩
set_option maxHeartbeats 2000000 in
set_option maxRecDepth 100000 in
theorem l92Command_2 (rb N : Nat) (user text : List UInt8) (tos : List (List UInt8)) (ta : Option Addr) (tcap : Nat) (uv : Value) (w : World) (h : RdAt w rb N) (hN : N ≤ 999900) (hul : user.length ≤ 40)  :
    Calls Tryz.prog 22 #[.pointer (some ⟨rb, 0, none⟩), .agg #[.int .i64 2, .string (bs user), .slice ta tos.length tcap, .string (bs text)], uv] w (LnRes rb (N + 10) w) := by
  have HP := hid (fun M (hM : M ≤ 10) n w h (hn : n ≤ 1000) => pick_any rb (N + M) n w h (by omega) (by omega))
  have HO16 := hid (fun M (hM : M ≤ 10) w h => lits_of rb (N + M) [[69, 72, 76, 79, 32, 104, 111, 115, 116], [69, 72, 76, 79], [65, 85, 84, 72, 32, 80, 76, 65, 73, 78], [65, 85, 84, 72, 32, 76, 79, 71, 73, 78, 32, 120], [77, 65, 73, 76, 32, 70, 82, 79, 77, 58, 60, 62], [77, 65, 73, 76, 32, 70, 82, 79, 77, 58, 60, 97, 109, 121, 64, 104, 111, 115, 116, 46, 111, 114, 103, 62], [82, 67, 80, 84, 32, 84, 79, 58, 60, 98, 111, 98, 64, 104, 111, 115, 116, 46, 111, 114, 103, 62], [82, 67, 80, 84, 32, 84, 79, 58, 98, 111, 98], [68, 65, 84, 65], [82, 83, 69, 84], [78, 79, 79, 80], [81, 85, 73, 84], [81, 85, 73, 84, 32, 110, 111, 119], [101, 104, 108, 111, 32, 104, 111, 115, 116], [], [46]] (by decide) (by decide) (by decide) (by omega) w h)
  have HR0 := hid (h.kept ((Kept.refl [] w).alloc (.cells #[.int .i64 2, .string (bs user), .slice ta tos.length tcap, .string (bs text)] 25)))
  have HLT := hid h.lt
  have HUL := hid hul
  have HB0 := hid (new_block w (.cells #[.int .i64 2, .string (bs user), .slice ta tos.length tcap, .string (bs text)] 25))
  have HN9 := hid hN
  clear h hul hN
  go_enter Tryz.func22, Tryz.ntmps22
  go_wp2_with fail
  refine (HP.out 0 (by omega) 4 _ HR0.out (by omega)).mono ?_
  rintro e w1 ⟨y, rfl, y0, -, -, hK, hR⟩
  have hk1 : Kept [rb] w w1 := ((Kept.refl [rb] w).alloc _).trans hK
  have hb1 := hK.same HB0.out (by have := HLT.out; simp; omega)
  have HK1 := hid hk1
  have HR1 := hid hR
  have c := cell_of_block hb1 0
  have c1 := cell_of_block hb1 1
  simp at c c1
  clear hK hR hk1 hb1
  by_cases hy : y = 0
  · subst hy
    go_wp2_with fail
    refine (HO16.out 1 (by omega) _ HR1.out).mono ?_
    rintro e w3 ⟨l, rfl, hl, hK, hR⟩
    have HK3 := hid (HK1.out.trans hK)
    have HR3 := hid hR
    clear hK hR
    go_wp2
    go_ret
    exact ⟨l, rfl, by omega, HK3.out, HR3.out.mono (by omega)⟩
  · have hy' : (y == 0) = false := by rw [beq_eq_false_iff_ne]; exact hy
    have CK := hid (fun W' (k : Kept [rb] w1 W') => k.cell_some c1 (by have := HLT.out; simp; omega))
    have HOC := hid (fun W (k : Kept [] w1 W) (hb : W.heap[w1.heap.size]? = some (.cells (([[104, 111, 115, 116, 46, 111, 114, 103], [104, 111, 115, 116, 46, 111, 114, 103], [104, 111, 115, 116, 46, 111, 114, 103], [120]] : List (List UInt8)).map (fun l => Value.string (bs l))).toArray 9 (0, 0))) => of_blk rb (N + 1) [[104, 111, 115, 116, 46, 111, 114, 103], [104, 111, 115, 116, 46, 111, 114, 103], [104, 111, 115, 116, 46, 111, 114, 103], [120]] w1.heap.size W (HR1.out.kept k) (by have := HN9.out; omega) HR1.out.lt hb (by decide) (by decide) (by decide))
    have hul := HUL.out
    have l1 : (11 : Int) + user.length ≤ 9223372036854775807 := by omega
    have l2 : (11 : Int) + user.length + 1 ≤ 9223372036854775807 := by omega
    have n1 : ¬ 9223372036854775807 < 11 + user.length := by omega
    have n2 : ¬ 9223372036854775807 < 11 + user.length + 1 := by omega
    clear HO16 HP hy y0 l1 l2
    go_wp2
    go_region_held3 (fun w' => w'.cell? ⟨w.heap.size, 1, none⟩ = some (.string (bs user)))
      (first
        | go_keep
        | exact CK.out _ (by repeat' with_reducible first | exact hKK | exact Kept.refl _ _ | refine Kept.drew ?_ | refine Kept.alloc ?_ _))
      (first
        | (go_at_call 37
           refine (HOC.out _ ?_ ?_).mono ?_
           · repeat' with_reducible first | exact Kept.refl _ _ | refine Kept.drew ?_ | refine Kept.alloc ?_ _
           · first | exact new_block _ _ | exact new_block (w1.drew) _
           rintro e w2 ⟨m, rfl, hm, hK, hR⟩
           have hKK : Kept [rb] w1 w2 := Kept.trans (by repeat' with_reducible first | exact Kept.refl _ _ | refine Kept.drew ?_ | refine Kept.alloc ?_ _) hK
           have n3 : ¬ 9223372036854775807 < 11 + user.length + 1 + m.length := (by omega)
           have n4 : ¬ 9223372036854775807 < 11 + user.length + 1 + m.length + 1 := (by omega)))
    all_goals
      go_wp2
      go_ret
      have hul := HUL.out
      exact ⟨[77, 65, 73, 76, 32, 70, 82, 79, 77, 58, 60] ++ user ++ [64] ++ m ++ [62], ret_str (by rw [← append_bs, ← append_bs, ← append_bs, ← append_bs]; rfl), by simp; omega, HK1.out.trans hKK, hR.mono (by omega)⟩
set_option maxHeartbeats 2000000 in
set_option maxRecDepth 100000 in
theorem l92Command_any (rb N : Nat) (s : Sb) (v uv : Value) (us : List Usr) (w : World) (h : RdAt w rb N) (hN : N ≤ 999900) (hs : SubAt 0 w v s) (hul : s.user.length ≤ 40) (hu : UsersAt (rb + 1) w uv us) :
    Calls Tryz.prog 22 #[.pointer (some ⟨rb, 0, none⟩), v, uv] w (LnRes rb (N + 10) w) := by
  obtain ⟨tv, rfl, hst, -, -⟩ := hs
  obtain ⟨ta, tcap, rfl⟩ := hst.form
  obtain ⟨stage, user, tos, text⟩ := s
  by_cases h2 : stage = 2
  · subst h2
    exact l92Command_2 rb N user text tos ta tcap uv w h hN hul
  obtain ⟨ua, ucap, rfl⟩ := users_form hu
  dsimp only at hul ⊢
  have HP := hid (fun M (hM : M ≤ 10) n w h (hn : n ≤ 1000) => pick_any rb (N + M) n w h (by omega) (by omega))
  have HO7 := hid (fun M (hM : M ≤ 10) w h => lits_of rb (N + M) [[46], [104, 101, 108, 108, 111], [46, 46], [46, 120], [], [97, 32, 108, 111, 110, 103, 32, 108, 105, 110, 101, 32, 111, 102, 32, 116, 101, 120, 116], [116, 111, 32, 98, 111, 98]] (by decide) (by decide) (by decide) (by omega) w h)
  have HO16 := hid (fun M (hM : M ≤ 10) w h => lits_of rb (N + M) [[69, 72, 76, 79, 32, 104, 111, 115, 116], [69, 72, 76, 79], [65, 85, 84, 72, 32, 80, 76, 65, 73, 78], [65, 85, 84, 72, 32, 76, 79, 71, 73, 78, 32, 120], [77, 65, 73, 76, 32, 70, 82, 79, 77, 58, 60, 62], [77, 65, 73, 76, 32, 70, 82, 79, 77, 58, 60, 97, 109, 121, 64, 104, 111, 115, 116, 46, 111, 114, 103, 62], [82, 67, 80, 84, 32, 84, 79, 58, 60, 98, 111, 98, 64, 104, 111, 115, 116, 46, 111, 114, 103, 62], [82, 67, 80, 84, 32, 84, 79, 58, 98, 111, 98], [68, 65, 84, 65], [82, 83, 69, 84], [78, 79, 79, 80], [81, 85, 73, 84], [81, 85, 73, 84, 32, 110, 111, 119], [101, 104, 108, 111, 32, 104, 111, 115, 116], [], [46]] (by decide) (by decide) (by decide) (by omega) w h)
  have HO3 := hid (fun M (hM : M ≤ 10) w h => lits_of rb (N + M) [[97, 109, 121], [98, 111, 98], [99, 121, 100]] (by decide) (by decide) (by decide) (by omega) w h)
  have HOA := hid (fun M (hM : M ≤ 10) w h => lits_of rb (N + M) [[97, 109, 121], [98, 111, 98], [99, 121, 100], [101, 118, 101]] (by decide) (by decide) (by decide) (by omega) w h)
  have HOB := hid (fun M (hM : M ≤ 10) w h => lits_of rb (N + M) [[104, 111, 115, 116, 46, 111, 114, 103], [104, 111, 115, 116, 46, 111, 114, 103], [104, 111, 115, 116, 46, 111, 114, 103], [120]] (by decide) (by decide) (by decide) (by omega) w h)
  have HDM := hid (fun M (hM : M ≤ 10) w h => l91Domain_any rb (N + M) w h (by omega))
  have HPS := hid (fun nm w' (k : Kept [rb] w w') (h' : RdAt w' rb (N + 1 + 1)) => l92Pass_any rb (N + 1 + 1) (.slice ua us.length ucap) us nm w' h' (by omega) (hu.kept k (by simp)))
  have HR0 := hid (h.kept ((Kept.refl [] w).alloc (.cells #[.int .i64 stage, .string (bs user), .slice ta tos.length tcap, .string (bs text)] 25)))
  have HLT := hid h.lt
  have HUL := hid hul
  have HB0 := hid (new_block w (.cells #[.int .i64 stage, .string (bs user), .slice ta tos.length tcap, .string (bs text)] 25))
  have HN2 := hid h2
  clear h hst hul hN h2
  by_cases h5 : stage = 5
  · subst h5
    go_enter Tryz.func22, Tryz.ntmps22
    go_wp2_with fail
    refine (HP.out 0 (by omega) 3 _ HR0.out (by omega)).mono ?_
    rintro e w1 ⟨x, rfl, x0, -, -, hK, hR⟩
    have hk1 : Kept [rb] w w1 := ((Kept.refl [rb] w).alloc _).trans hK
    have hb1 := hK.same HB0.out (by have := HLT.out; simp; omega)
    have HK1 := hid hk1
    have HR1 := hid hR
    have HB1 := hid hb1
    clear hK hR hk1 hb1
    by_cases hx : 0 < x
    · go_wp2_with fail
      refine (HO7.out 1 (by omega) _ HR1.out).mono ?_
      rintro e w2 ⟨l, rfl, hl, hK, hR⟩
      have HK2 := hid (HK1.out.trans hK)
      have HR2 := hid hR
      clear hK hR
      go_wp2
      go_ret
      exact ⟨l, rfl, by omega, HK2.out, HR2.out.mono (by omega)⟩
    · have hx0 : x = 0 := by omega
      subst hx0
      go_wp2_with fail
      refine (HP.out 1 (by omega) 4 _ HR1.out (by omega)).mono ?_
      rintro e w2 ⟨y, rfl, y0, -, -, hK, hR⟩
      have HK2 := hid (HK1.out.trans hK)
      have HR2 := hid hR
      have c := cell_of_block (hK.same HB1.out (by have := HLT.out; simp; omega)) 0
      simp at c
      clear hK hR
      by_cases hy : y = 0
      · subst hy
        go_wp2_with fail
        refine (HO16.out 2 (by omega) _ HR2.out).mono ?_
        rintro e w3 ⟨l, rfl, hl, hK, hR⟩
        have HK3 := hid (HK2.out.trans hK)
        have HR3 := hid hR
        clear hK hR
        go_wp2
        go_ret
        exact ⟨l, rfl, by omega, HK3.out, HR3.out.mono (by omega)⟩
      · have hy' : (y == 0) = false := by rw [beq_eq_false_iff_ne]; exact hy
        go_wp2
        go_ret
        exact ⟨[78, 79, 79, 80], rfl, by simp, HK2.out, HR2.out.mono (by omega)⟩
  · have h5' : (stage == 5) = false := by rw [beq_eq_false_iff_ne]; exact h5
    go_enter Tryz.func22, Tryz.ntmps22
    go_wp2_with fail
    refine (HP.out 0 (by omega) 4 _ HR0.out (by omega)).mono ?_
    rintro e w1 ⟨y, rfl, y0, -, -, hK, hR⟩
    have hk1 : Kept [rb] w w1 := ((Kept.refl [rb] w).alloc _).trans hK
    have hb1 := hK.same HB0.out (by have := HLT.out; simp; omega)
    have HK1 := hid hk1
    have HR1 := hid hR
    have HB1 := hid hb1
    have c := cell_of_block hb1 0
    have c1 := cell_of_block hb1 1
    simp at c c1
    clear hK hR hk1 hb1
    by_cases hy : y = 0
    · subst hy
      go_wp2_with fail
      refine (HO16.out 1 (by omega) _ HR1.out).mono ?_
      rintro e w3 ⟨l, rfl, hl, hK, hR⟩
      have HK3 := hid (HK1.out.trans hK)
      have HR3 := hid hR
      clear hK hR
      go_wp2
      go_ret
      exact ⟨l, rfl, by omega, HK3.out, HR3.out.mono (by omega)⟩
    · have hy' : (y == 0) = false := by rw [beq_eq_false_iff_ne]; exact hy
      by_cases s0 : stage = 0
      · subst s0
        go_wp2_with fail
        refine (HDM.out 1 (by omega) _ HR1.out).mono ?_
        rintro e w3 ⟨l, rfl, hl, hK, hR⟩
        have HK3 := hid (HK1.out.trans hK)
        have HR3 := hid hR
        have hl5 : (5 : Int) + l.length ≤ 9223372036854775807 := by omega
        clear hK hR
        go_wp2
        go_ret
        exact ⟨[69, 72, 76, 79, 32] ++ l, ret_str (append_bs _ _), by simp; omega, HK3.out, HR3.out.mono (by omega)⟩
      · have s0' : (stage == 0) = false := by rw [beq_eq_false_iff_ne]; exact s0
        by_cases s1 : stage = 1
        · subst s1
          go_wp2_with fail
          refine (HO3.out 1 (by omega) _ HR1.out).mono ?_
          rintro e w3 ⟨l, rfl, hl, hK, hR⟩
          have HK3 := hid (HK1.out.trans hK)
          have HR3 := hid hR
          clear hK hR
          go_wp2_with fail
          refine (HPS.out l _ HK3.out HR3.out).mono ?_
          rintro e w4 ⟨p, rfl, hp, hK, hR⟩
          have HK4 := hid (HK3.out.trans hK)
          have HR4 := hid hR
          clear hK hR
          go_wp2_with fail
          refine (sPlainMake_any l p _ (by unfold bigN; omega) hp).mono ?_
          rintro e w5 ⟨rfl, hK⟩
          have HK5 := hid (HK4.out.trans hK.nil)
          have HR5 := hid (HR4.out.kept hK)
          have hmk := makeP_le l p
          generalize makeP l p = mk at hmk
          have hl5 : (11 : Int) + mk.length ≤ 9223372036854775807 := by omega
          clear hK hp
          go_wp2
          go_ret
          exact ⟨[65, 85, 84, 72, 32, 80, 76, 65, 73, 78, 32] ++ mk, ret_str (append_bs _ _), by simp; omega, HK5.out, HR5.out.mono (by omega)⟩
        · have s1' : (stage == 1) = false := by rw [beq_eq_false_iff_ne]; exact s1
          by_cases s2 : stage = 2
          · exact absurd s2 HN2.out
          · have s2' : (stage == 2) = false := by rw [beq_eq_false_iff_ne]; exact s2
            by_cases s34 : stage = 3 ∨ stage = 4
            · rcases s34 with rfl | rfl
              · go_wp2_with fail
                refine (HOA.out 1 (by omega) _ HR1.out).mono ?_
                rintro e w5 ⟨l, rfl, hl, hK, hR⟩
                have HK5 := hid (HK1.out.trans hK)
                have HR5 := hid hR
                have l1 : (9 : Int) + l.length ≤ 9223372036854775807 := by omega
                have l2 : (9 : Int) + l.length + 1 ≤ 9223372036854775807 := by omega
                clear hK hR
                go_wp2_with fail
                refine (HOB.out 2 (by omega) _ HR5.out).mono ?_
                rintro e w6 ⟨m, rfl, hm, hK, hR⟩
                have HK6 := hid (HK5.out.trans hK)
                have HR6 := hid hR
                have l3 : (9 : Int) + l.length + 1 + m.length ≤ 9223372036854775807 := by omega
                have l4 : (9 : Int) + l.length + 1 + m.length + 1 ≤ 9223372036854775807 := by omega
                clear hK hR
                go_wp2
                go_ret
                exact ⟨[82, 67, 80, 84, 32, 84, 79, 58, 60] ++ l ++ [64] ++ m ++ [62], ret_str (by rw [← append_bs, ← append_bs, ← append_bs, ← append_bs]; rfl), by simp; omega, HK6.out, HR6.out.mono (by omega)⟩
              · go_wp2_with fail
                refine (HP.out 1 (by omega) 2 _ HR1.out (by omega)).mono ?_
                rintro e w2 ⟨z, rfl, z0, -, -, hK, hR⟩
                have HK2 := hid (HK1.out.trans hK)
                have HR2 := hid hR
                clear hK hR
                by_cases hz : z = 0
                · subst hz
                  go_wp2
                  go_ret
                  exact ⟨[68, 65, 84, 65], rfl, by simp, HK2.out, HR2.out.mono (by omega)⟩
                · have hz' : (z == 0) = false := by rw [beq_eq_false_iff_ne]; exact hz
                  go_wp2_with fail
                  refine (HOA.out 2 (by omega) _ HR2.out).mono ?_
                  rintro e w5 ⟨l, rfl, hl, hK, hR⟩
                  have HK5 := hid (HK2.out.trans hK)
                  have HR5 := hid hR
                  have l1 : (9 : Int) + l.length ≤ 9223372036854775807 := by omega
                  have l2 : (9 : Int) + l.length + 1 ≤ 9223372036854775807 := by omega
                  clear hK hR
                  go_wp2_with fail
                  refine (HOB.out 3 (by omega) _ HR5.out).mono ?_
                  rintro e w6 ⟨m, rfl, hm, hK, hR⟩
                  have HK6 := hid (HK5.out.trans hK)
                  have HR6 := hid hR
                  have l3 : (9 : Int) + l.length + 1 + m.length ≤ 9223372036854775807 := by omega
                  have l4 : (9 : Int) + l.length + 1 + m.length + 1 ≤ 9223372036854775807 := by omega
                  clear hK hR
                  go_wp2
                  go_ret
                  exact ⟨[82, 67, 80, 84, 32, 84, 79, 58, 60] ++ l ++ [64] ++ m ++ [62], ret_str (by rw [← append_bs, ← append_bs, ← append_bs, ← append_bs]; rfl), by simp; omega, HK6.out, HR6.out.mono (by omega)⟩
            · have s3' : (stage == 3) = false := by rw [beq_eq_false_iff_ne]; omega
              have s4' : (stage == 4) = false := by rw [beq_eq_false_iff_ne]; omega
              go_wp2
              go_ret
              exact ⟨[78, 79, 79, 80], rfl, by simp, HK1.out, HR1.out.mono (by omega)⟩
end Go.Proofs.YtahiahboneljaaaGreatDoor
