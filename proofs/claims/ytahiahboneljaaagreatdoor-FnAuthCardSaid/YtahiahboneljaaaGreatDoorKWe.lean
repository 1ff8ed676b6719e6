/- The walks of senders and receivers (impl). -/
import Derived.Test.YtahiahboneljaaaGreatDoorKWd
import Derived.Deep.RegionHeld3
import Derived.Deep.AppendLies
import Derived.Deep.RegionLaw
namespace Go.Proofs.YtahiahboneljaaaGreatDoor
open Go.RowKit

theorem bs_beq (a b : List UInt8) : ((bs a).toList == (bs b).toList) = decide (a = b) := by
  rw [ByteArray.toList_eq, ByteArray.toList_eq, bs_toList, bs_toList, Bool.eq_iff_iff]; simp

theorem mailBeg_any (s : ByteArray) (w : World) (hs : s.size ≤ bigN) : Calls Tryz.prog 73 #[.string s, .string ⟨#[77, 65, 73, 76, 32, 70, 82, 79, 77, 58]⟩] w fun e w' => e = .returned (pathRes (pathP mailW s.data.toList)) ∧ Kept [] w w' := pathBehind_any s ⟨#[77, 65, 73, 76, 32, 70, 82, 79, 77, 58]⟩ w hs
theorem toBeg_any (s : ByteArray) (w : World) (hs : s.size ≤ bigN) : Calls Tryz.prog 73 #[.string s, .string ⟨#[82, 67, 80, 84, 32, 84, 79, 58]⟩] w fun e w' => e = .returned (pathRes (pathP toW s.data.toList)) ∧ Kept [] w w' := pathBehind_any s ⟨#[82, 67, 80, 84, 32, 84, 79, 58]⟩ w hs

theorem sender_any (w0 w : World) (p : Nat) (s : Sb) (us : List Usr) (dom : List UInt8) (line : ByteArray) (h : PostAt w0 p w s us dom) (hl : line.size ≤ bigN) :
    Calls Tryz.prog 48 #[.pointer (some ⟨p, 0, none⟩), .string line] w fun e w' => e = .returned (.int .i64 (mailP s dom line.data.toList).2) ∧ PostAt w0 p w' (mailP s dom line.data.toList).1 us dom := by
  obtain ⟨tv, uv, -, -, -, c0, -, -, -, -, -, hf, hpl⟩ := h.use
  have HP := hid h
  clear hf h
  by_cases h1 : s.stage < 2
  · have hr : mailP s dom line.data.toList = (s, 530) := by unfold mailP; rw [if_pos h1]
    rw [hr]
    clear hr
    go_enter Tryz.func48, Tryz.ntmps48
    go_wp2
    go_ret
    exact ⟨rfl, HP.out⟩
  · by_cases h2 : s.stage = 2
    · rw [h2] at c0
      go_enter Tryz.func48, Tryz.ntmps48
      go_wp2_with fail
      refine (mailBeg_any line _ hl).mono ?_
      rintro e w1 ⟨rfl, hK⟩
      have hP1 := HP.out.keep hK
      have HP1 := hid hP1
      cases hpp : pathP mailW line.data.toList with
      | none =>
        have hr : mailP s dom line.data.toList = (s, 501) := by unfold mailP; rw [if_neg (by omega), if_neg (by omega), hpp]
        have HR := hid hr
        rw [show pathRes none = .tuple #[.agg #[.string ⟨#[]⟩, .string ⟨#[]⟩], .bool false] from rfl]
        clear hr hP1 hK hpp
        go_wp2
        go_ret
        rw [HR.out]
        exact ⟨rfl, HP1.out.keep ((Kept.refl [] w1).alloc _)⟩
      | some x =>
        obtain ⟨u, d⟩ := x
        rw [show pathRes (some (u, d)) = .tuple #[.agg #[.string (bs u), .string (bs d)], .bool true] from rfl]
        obtain ⟨tv, uv, -, -, -, c0, c1, c2, c3, c4, c5, hf, hpl⟩ := hP1.use
        have f0 := hf 0
        have b1 := bs_beq u s.user
        have b2 := bs_beq d dom
        rw [h2] at c0
        have hr : mailP s dom line.data.toList = if u = s.user ∧ d = dom then (⟨3, s.user, s.to, s.text⟩, 250) else (s, 550) := by unfold mailP; rw [if_neg (by omega), if_neg (by omega), hpp]
        clear hf hP1 hK hpp
        by_cases e1 : u = s.user
        · rw [decide_eq_true e1] at b1
          by_cases e2 : d = dom
          · rw [decide_eq_true e2] at b2
            rw [if_pos ⟨e1, e2⟩] at hr
            have HR := hid hr
            clear hr e1 e2
            go_wp2
            go_quiet (fail)
            go_wp2
            go_ret
            rw [HR.out]
            refine ⟨rfl, ?_⟩
            first
              | exact (HP1.out.stage 3).keep (((Kept.refl [] _).alloc _).drewN _)
              | exact (HP1.out.keep (((Kept.refl [] w1).alloc _).drewN _)).stage 3
              | exact (((HP1.out.keep ((Kept.refl [] _).drewN nq)).stage 3)).keep ((Kept.refl [] _).alloc _)
          · rw [decide_eq_false e2] at b2
            rw [if_neg (fun e => e2 e.2)] at hr
            have HR := hid hr
            clear hr e1 e2
            go_wp2
            go_quiet (fail)
            go_wp2
            go_ret
            rw [HR.out]
            exact ⟨rfl, HP1.out.keep (((Kept.refl [] w1).alloc _).drewN _)⟩
        · rw [decide_eq_false e1] at b1
          rw [if_neg (fun e => e1 e.1)] at hr
          have HR := hid hr
          clear hr e1 b2
          go_wp2
          go_quiet (fail)
          go_wp2
          go_ret
          rw [HR.out]
          exact ⟨rfl, HP1.out.keep (((Kept.refl [] w1).alloc _).drewN _)⟩
    · have hr : mailP s dom line.data.toList = (s, 503) := by unfold mailP; rw [if_neg h1, if_pos h2]
      have h3 : 2 < s.stage := by omega
      rw [hr]
      clear hr
      go_enter Tryz.func48, Tryz.ntmps48
      go_wp2
      go_ret
      exact ⟨rfl, HP.out⟩

theorem strs_own {w : World} {base : Nat} {v : Value} {L : List (List UInt8)} (h : w.ownsRow base 9 1 v L.length (L.map sv)) (hl : L.length ≤ bigN) (he : ∀ x ∈ L, x.length ≤ bigN) : StrsAt 0 w v L := by
  rcases Nat.eq_zero_or_pos L.length with h0 | h0
  · obtain ⟨-, h2⟩ := h
    rcases h2 with ⟨hv, -⟩ | ⟨g, cap, cur, hv, -, -, hc, -⟩
    · exact ⟨none, 0, 0, 0, by rw [hv, h0], hl, by omega, fun h1 => by omega, fun j hj => by omega⟩
    · exact ⟨_, cap, 0, 0, hv, hl, hc, fun h1 => by omega, fun j hj => by omega⟩
  · obtain ⟨g, cap, hv, hg, hh, hc, -, -⟩ := own_open h h0
    obtain ⟨g', cap', hv', -, -, hcl⟩ := own_strs h h0
    rw [hv] at hv'
    injection hv' with e1 e2 e3
    injection e1 with e1
    injection e1 with e1
    subst e1
    exact ⟨_, cap, g, 0, hv, hl, hc, fun _ => ⟨rfl, Nat.zero_le _, hh⟩, fun j hj => ⟨by rw [Nat.zero_add]; exact hcl j hj, he _ (List.getElem_mem hj)⟩⟩
theorem nmsOk_mem {s l : List (List UInt8)} (h : nmsOk s l = true) : ∀ x ∈ l, isName x = true := by
  induction l generalizing s with
  | nil => simp
  | cons y r ih =>
    simp [nmsOk] at h
    intro x hx
    rcases List.mem_cons.1 hx with rfl | hx
    · exact h.1.1
    · exact ih h.2 x hx
theorem to_names {s : Sb} (h : subOk s = true) : ∀ x ∈ s.to, x.length ≤ bigN := by
  intro x hx
  have h8 : isName x = true := by
    obtain ⟨st, u, t, y⟩ := s
    unfold subOk at h
    dsimp only at h hx
    split at h
    · simp at h; rw [h.1.2] at hx; cases hx
    · split at h
      · simp at h; rw [h.1.2] at hx; cases hx
      · split at h
        · simp [rcvOk] at h; exact nmsOk_mem h.1.2.2 x hx
        · split at h
          · simp [rcvOk] at h; exact nmsOk_mem h.1.2.2 x hx
          · cases h
  have := isName_len h8
  unfold bigN; omega

/-- A goal at a world of which no more is needed than C. -/
theorem gen_world {R : World → Prop} {W : World} (C : World → Prop) (hC : C W) (h : ∀ W', C W' → R W') : R W := h W hC

theorem stage_text {s : Sb} (h : subOk s = true) (h5 : s.stage ≠ 5) : s.text = [] := (subOk_use h).2.2.2.1 h5

/-- append of one string to a row of the call's own, at a step of a region that draws its order. -/
theorem step_append_str {ops : Array Oper} {o : Oper} {a : Act} {w : World} {K : Act → World → Prop} {Q : Exit → Act → World → Prop} {E : Prop} (hgd : o.guard = none) (s x : Operand)
    (ho : o.op = .call { callee := .builtin .append, args := #[s, x], argTypes := #[23, 23] })
    (base : Nat) (v : Value) (n : Nat) (xs : List Value) (hs : a.eval s = v) (hown : w.ownsRow base 9 1 v n xs)
    (g0 : Nat) (y : ByteArray) (hx : a.eval x = .slice (some ⟨g0, 0, none⟩) 1 1) (hy : w.cell? ⟨g0, 0, none⟩ = some (.string y)) (hn : n ≤ bigN) (hbase : base ≤ w.heap.size)
    (h : ∀ g cap w', w'.ownsRow base 9 1 (.slice (some ⟨g, 0, none⟩) (n + 1) cap) (n + 1) (xs ++ [.string y]) → w.grownBy w' v.ownBlock → K (a.put o.dst (.slice (some ⟨g, 0, none⟩) (n + 1) cap)) w') :
    if Region.wanted o (yielded ops a.tmps) = true then Oper.wp Tryz.prog o a w K Q else E := by
  obtain ⟨i0, hi, hz0, hz1, hz2⟩ := info_parts inf_string
  refine step_append_lies w hgd s x 23 ho base 9 i0 _ 1 16 Tryz.underlying23 hi hz0 hz1 hz2 rfl (by decide) v n xs hs hown ⟨g0, 0, none⟩ 1 1 [.string y] hx rfl ?_ ?_ (by decide) ?_ ?_ hbase _ rfl (fun g cap w' h1 h2 _ _ => h g cap w' h1 h2)
  · intro j u hj
    cases j with
    | zero => simp at hj; subst hj; simpa [Addr.add] using hy
    | succ j => simp at hj
  · simp [Value.oneCell']
  · unfold bigN at hn; unfold maxLen; omega
  · unfold bigN at hn; omega

set_option maxHeartbeats 4000000 in
theorem receiver_any (w0 w : World) (p : Nat) (s : Sb) (us : List Usr) (dom : List UInt8) (line : ByteArray) (h : PostAt w0 p w s us dom) (hv : subOk s = true) (huv : usersOk us = true) (hl : line.size ≤ bigN) :
    Calls Tryz.prog 49 #[.pointer (some ⟨p, 0, none⟩), .string line] w fun e w' => e = .returned (.int .i64 (toP s us dom line.data.toList).2) ∧ PostAt w0 p w' (toP s us dom line.data.toList).1 us dom := by
  obtain ⟨tv, uv, -, -, -, c0, -, -, -, -, -, hf, hpl⟩ := h.use
  obtain ⟨-, -, -, -, -, -, hto, -⟩ := subOk_use hv
  have HP := hid h
  have HTN := hid (to_names hv)
  clear hf h
  by_cases h1 : s.stage = 3 ∨ s.stage = 4
  · have hrest : ∀ x, pathP toW line.data.toList = x → toP s us dom line.data.toList = match x with
        | none => (s, 501)
        | some (u, d) => if (usrFind us u).isSome = true ∧ d = dom then
            (if hasN s.to u = true then (s, 250) else if 3 ≤ s.to.length then (s, 452) else (⟨4, s.user, s.to ++ [u], s.text⟩, 250)) else (s, 550) := fun x hx => by
      unfold toP; rw [if_neg (by omega), hx]; cases x <;> rfl
    have HRS := hid hrest
    clear hrest
    rcases h1 with h3 | h3
    all_goals
      rw [h3] at c0
      go_enter Tryz.func49, Tryz.ntmps49
      go_wp2_with fail
    all_goals
      refine (toBeg_any line _ hl).mono ?_
      rintro e w1 ⟨rfl, hK⟩
      have hP1 := HP.out.keep hK
      have HP1 := hid hP1
      cases hpp : pathP toW line.data.toList with
      | none =>
        have HR := hid (HRS.out none hpp)
        rw [show pathRes none = .tuple #[.agg #[.string ⟨#[]⟩, .string ⟨#[]⟩], .bool false] from rfl]
        clear hP1 hK hpp HRS
        go_wp2
        go_ret
        rw [HR.out]
        exact ⟨rfl, HP1.out.keep ((Kept.refl [] w1).alloc _)⟩
      | some x =>
        obtain ⟨u, d⟩ := x
        have HR := hid (HRS.out _ hpp)
        rw [show pathRes (some (u, d)) = .tuple #[.agg #[.string (bs u), .string (bs d)], .bool true] from rfl]
        have hP2 := hP1.keep ((Kept.refl [] w1).alloc (Obj.cells #[.string (bs u), .string (bs d)] 91))
        obtain ⟨tv, uv, -, -, hu, c0, c1, c2, c3, c4, c5, hf, hpl⟩ := hP1.use
        clear hP1 hK hpp HRS hf
        go_wp2
        have HU := hid hu
        have HP2 := hid hP2
        have hck : ∀ W, Kept [] (w1.alloc (Obj.cells #[.string (bs u), .string (bs d)] 91)) W → W.cell? ⟨p, 4, none⟩ = some uv ∧ W.cell? ⟨w1.heap.size, 0, none⟩ = some (.string (bs u)) := fun W hW =>
          ⟨hW.cell_some (((Kept.refl [] w1).alloc _).cell_some c4 (by simp)) (by simp), hW.cell_some (by rw [cell_of_block (new_block _ _)]; rfl) (by simp)⟩
        have CK := hid hck
        have hnb : ∀ W, Kept [] (((w1.alloc (Obj.cells #[.string (bs u), .string (bs d)] 91)).alloc (Obj.cells #[.string ⟨#[]⟩, .string ⟨#[]⟩, .int .i64 0] 35)).drew) W →
            W.cell? ⟨w1.heap.size + 1, 0, none⟩ = some (.string ⟨#[]⟩) ∧ W.cell? ⟨w1.heap.size + 1, 1, none⟩ = some (.string ⟨#[]⟩) ∧ W.cell? ⟨w1.heap.size + 1, 2, none⟩ = some (.int .i64 0) ∧
            W.frozen? ⟨w1.heap.size + 1, 0, none⟩ = false ∧ W.frozen? ⟨w1.heap.size + 1, 1, none⟩ = false ∧ W.frozen? ⟨w1.heap.size + 1, 2, none⟩ = false ∧ w1.heap.size + 1 < W.heap.size := fun W hW => by
          have hb := hW.same (b := w1.heap.size + 1) (x := Obj.cells #[.string ⟨#[]⟩, .string ⟨#[]⟩, .int .i64 0] 35) (by
            have := new_block (w1.alloc (Obj.cells #[.string (bs u), .string (bs d)] 91)) (Obj.cells #[.string ⟨#[]⟩, .string ⟨#[]⟩, .int .i64 0] 35)
            have e : (w1.alloc (Obj.cells #[.string (bs u), .string (bs d)] 91)).heap.size = w1.heap.size + 1 := by simp
            rw [e] at this
            exact this) (by simp)
          exact ⟨by rw [cell_of_block hb]; rfl, by rw [cell_of_block hb]; rfl, by rw [cell_of_block hb]; rfl, frozen_of_block hb _, frozen_of_block hb _, frozen_of_block hb _, lt_of_block hb⟩
        have NB := hid hnb
        have pn : ¬ w1.heap.size + 1 = p := by omega
        have pn' : ¬ p = w1.heap.size + 1 := by omega
        clear hck hnb
        cases hfd : usrFind us u with
        | none =>
          have hF : ∀ W, Kept [] w0 W → Calls Tryz.prog 74 #[uv, .string (bs u)] W fun e w' => e = .returned (.tuple #[.agg #[.string ⟨#[]⟩, .string ⟨#[]⟩, .int .i64 0], .bool false]) ∧ Kept [] W w' := fun W hW => by
            have := iUsersFind_any 0 uv us (bs u) W (HU.out.kept0 hW)
            rw [bs_toList, usrSeek, if_pos huv, hfd] at this
            exact this
          have HF := hid hF
          clear hF hu hP2
          go_region_held3 (fun w' => w'.cell? ⟨p, 4, none⟩ = some uv ∧ w'.cell? ⟨w1.heap.size, 0, none⟩ = some (.string (bs u)))
            (first
              | go_keep
              | exact CK.out _ (by repeat' with_reducible first | exact hKK | exact Kept.refl _ _ | refine Kept.setCell ?_ _ _ (by simp) | refine Kept.drew ?_ | refine Kept.alloc ?_ _))
            ((go_at_call 74; refine (HF.out _ (by repeat' with_reducible first | exact HP2.out.kept | refine Kept.drew ?_ | refine Kept.alloc ?_ _)).mono ?_; rintro e w2 ⟨rfl, hK2⟩; have hKK := Kept.trans (a := w1.alloc (Obj.cells #[.string (bs u), .string (bs d)] 91)) (by repeat' with_reducible first | exact Kept.refl _ _ | refine Kept.drew ?_ | refine Kept.alloc ?_ _) hK2; try (have hq := NB.out _ hK2; obtain ⟨q0, q1, q2, r0, r1, r2, qs⟩ := hq)))
          all_goals
            go_wp2
            go_quiet (fail)
            go_wp2
            go_ret
            rw [HR.out, hfd]
            refine ⟨rfl, HP2.out.keep ?_⟩
            repeat' with_reducible first | exact hKK | refine Kept.setCell ?_ _ _ (by simp) | refine Kept.drewN ?_ _ | refine Kept.drew ?_ | refine Kept.alloc ?_ _
        | some y =>
          have hF : ∀ W, Kept [] w0 W → Calls Tryz.prog 74 #[uv, .string (bs u)] W fun e w' => e = .returned (.tuple #[.agg #[.string (bs y.name), .string (bs y.pass), .int .i64 y.quota], .bool true]) ∧ Kept [] W w' := fun W hW => by
            have := iUsersFind_any 0 uv us (bs u) W (HU.out.kept0 hW)
            rw [bs_toList, usrSeek, if_pos huv, hfd] at this
            exact this
          have HF := hid hF
          clear hF hu hP2
          go_region_held3 (fun w' => w'.cell? ⟨p, 4, none⟩ = some uv ∧ w'.cell? ⟨w1.heap.size, 0, none⟩ = some (.string (bs u)))
            (first
              | go_keep
              | exact CK.out _ (by repeat' with_reducible first | exact hKK | exact Kept.refl _ _ | refine Kept.setCell ?_ _ _ (by simp) | refine Kept.drew ?_ | refine Kept.alloc ?_ _))
            ((go_at_call 74; refine (HF.out _ (by repeat' with_reducible first | exact HP2.out.kept | refine Kept.drew ?_ | refine Kept.alloc ?_ _)).mono ?_; rintro e w2 ⟨rfl, hK2⟩; have hKK := Kept.trans (a := w1.alloc (Obj.cells #[.string (bs u), .string (bs d)] 91)) (by repeat' with_reducible first | exact Kept.refl _ _ | refine Kept.drew ?_ | refine Kept.alloc ?_ _) hK2; try (have hq := NB.out _ hK2; obtain ⟨q0, q1, q2, r0, r1, r2, qs⟩ := hq)))
          all_goals
            refine gen_world (fun W => Kept [] (w1.alloc (Obj.cells #[.string (bs u), .string (bs d)] 91)) W) ?_ ?_
            · repeat' with_reducible first | exact hKK | refine Kept.setCell ?_ _ _ (by simp) | refine Kept.drewN ?_ _ | refine Kept.drew ?_ | refine Kept.alloc ?_ _
            clear c0 c1 c2 c3 c4 c5
            intro W hKW
            have hP3 := HP2.out.keep hKW
            obtain ⟨tv, uv, -, ho, hu, c0, c1, c2, c3, c4, c5, hf, hpl⟩ := hP3.use
            have f0 := hf 0
            have f2 := hf 2
            have ha := hKW.same (new_block w1 _) (by simp)
            have a0 := cell_of_block ha 0
            have a1 := cell_of_block ha 1
            simp at a0 a1
            have HP3 := hid hP3
            have HO := hid ho
            clear hf hP3 ho hu ha
            by_cases e2 : d = dom
            · have b2 := bs_beq d dom
              rw [decide_eq_true e2] at b2
              go_wp2
              go_quiet (fail)
              refine gen_world (fun W' => Kept [] W W') ((Kept.refl [] W).drewN _) ?_
              clear c0 c1 c2 c3 c4 c5 a0 a1 f0 f2 hpl HO
              intro W2 hK4
              have hP4 := HP3.out.keep hK4
              obtain ⟨tv, uv, hb4, ho, hu4, c0, c1, c2, c3, c4, c5, hf, hpl⟩ := hP4.use
              have HU4 := hid hu4
              clear hu4
              have f0 := hf 0
              have f2 := hf 2
              have ha := (hKW.trans hK4).same (new_block w1 _) (by simp)
              have a0 := cell_of_block ha 0
              simp at a0
              have HP4 := hid hP4
              have hS := strs_own ho (by unfold bigN; omega) HTN.out
              obtain ⟨ta, tcap, rfl⟩ := hS.form
              have HS := hid hS
              have HO := hid ho
              have HB4 := hid hb4
              have HA4 := hid ha
              clear hb4
              have HCT := hid (fun W' (hW : StrsAt 0 W' (.slice ta s.to.length tcap) s.to) => contains_any 0 _ s.to (bs u) W' hW)
              rw [bs_toList] at HCT
              clear hS hf hP4 ha ho hKW hK4
              cases hh : hasN s.to u with
              | true =>
                rw [hh] at HCT
                go_wp2
                go_quiet ((go_at_call 67; exact (HCT.out _ (HS.out.kept0 ((Kept.refl [] _).drewN _))).quiet_of_same))
                go_wp2
                go_ret
                rw [HR.out, if_pos ⟨by rw [hfd]; rfl, e2⟩, if_pos hh]
                exact ⟨rfl, HP4.out.keep ((Kept.refl _ _).drewN _)⟩
              | false =>
                rw [hh] at HCT
                by_cases h3 : s.to.length = 3
                · have h3' : (s.to.length : Int) = 3 := by omega
                  have H3 := hid h3
                  have H3' := hid h3'
                  clear h3 h3'
                  go_wp2
                  go_quiet ((go_at_call 67; exact (HCT.out _ (HS.out.kept0 ((Kept.refl [] _).drewN _))).quiet_of_same))
                  have h3' := H3'.out
                  go_wp2
                  go_ret
                  rw [HR.out, if_pos ⟨by rw [hfd]; rfl, e2⟩, if_neg (by rw [hh]; simp), if_pos (Nat.le_of_eq H3.out.symm)]
                  exact ⟨rfl, HP4.out.keep ((Kept.refl _ _).drewN _)⟩
                · have h3' : ¬ (s.to.length : Int) = 3 := by omega
                  go_wp2
                  go_quiet ((go_at_call 67; exact (HCT.out _ (HS.out.kept0 ((Kept.refl [] _).drewN _))).quiet_of_same))
                  clear c0 c1 c2 c3 c4 c5 a0 f0 f2 hpl
                  refine gen_world (fun W' => Kept [] W2 W') ((Kept.refl [] W2).drewN _) ?_
                  intro W3 hK5
                  have hb := hK5.same HB4.out (by simp)
                  have ha := hK5.same HA4.out (by simp)
                  have ho5 := own_kept HO.out hK5 (by simp)
                  have c0 := cell_of_block hb 0
                  have c2 := cell_of_block hb 2
                  have a0 := cell_of_block ha 0
                  simp at c0 c2 a0
                  have f0 := frozen_of_block hb 0
                  have f2 := frozen_of_block hb 2
                  have hpl := lt_of_block hb
                  have hgg : ∀ w4, (((W3.alloc (Obj.cells #[.string (bs u)] 9)).drew).grownBy w4 (Value.slice ta s.to.length tcap).ownBlock) → Kept [] w0 w4 ∧ w4.heap[p]? = some (Obj.cells #[.int .i64 s.stage, .string (bs s.user), .slice ta s.to.length tcap, .string (bs s.text), uv, .string (bs dom)] 48) ∧
                      w4.cell? ⟨p, 2, none⟩ = some (.slice ta s.to.length tcap) ∧ w4.frozen? ⟨p, 2, none⟩ = false ∧ p < w4.heap.size := fun w4 hg => by
                    have hb1 := alloc_block hb (Obj.cells #[.string (bs u)] 9)
                    have hb4 : w4.heap[p]? = _ := (hg.block p (lt_of_block hb1) (fun e => by
                      have := (((ho5.alloc (Obj.cells #[.string (bs u)] 9))).lt p e.symm).1
                      omega)).trans hb1
                    exact ⟨(((HP4.out.kept.trans hK5).alloc _).drew).own (World.ownsRow.drew (World.ownsRow.alloc ho5 _)) hg (by have := HP4.out.new; omega), hb4, by rw [cell_of_block hb4]; rfl, frozen_of_block hb4 _, lt_of_block hb4⟩
                  have HG := hid hgg
                  have HH3 := hid h3
                  have HO5 := hid ho5
                  have HB5 := hid hb
                  have HSN : Hid (s.to.length ≤ bigN) := by show _ ≤ _; unfold bigN; omega
                  have HBL : Hid (p + 1 ≤ W3.heap.size) := hpl
                  clear hgg hb ha ho5 h3
                  go_wp2
                  go_region_law (refine step_append_str (by rfl) (.tmp 74) (.tmp 77) (by rfl) (p + 1) (.slice ta s.to.length tcap) s.to.length (s.to.map sv) (by rfl) (World.ownsRow.drew (World.ownsRow.alloc HO5.out _)) W3.heap.size (bs u) (by rfl) (cell_new1 W3 _ _) HSN.out (le_alloc HBL.out _) ?_; intro g cap w4 hown4 hgrow4; obtain ⟨k4, b4, d0, d1, d2⟩ := HG.out _ hgrow4)
                  all_goals
                    have e0 := cell_of_block b4 0
                    simp at e0
                    have r0 := frozen_of_block b4 0
                    have HB6 := hid b4
                    clear b4
                    go_wp2
                    go_ret
                    rw [HR.out, if_pos ⟨by rw [hfd]; rfl, e2⟩, if_neg (by rw [hh]; simp), if_neg (by have := HH3.out; omega)]
                    refine ⟨rfl, HP4.out.set (HP4.out.set k4 2 _) 0 _, HP4.out.new, HP4.out.dl, _, uv, set_of_block (set_of_block HB6.out _) _, ?_, HU4.out⟩
                    have hk := own_kept hown4 (((Kept.refl [p] w4).setCell ⟨p, 2, none⟩ (Value.slice (some { block := g, off := 0 }) (s.to.length + 1) cap) (by simp)).setCell ⟨p, 0, none⟩ (.int .i64 4) (by simp)) (by simp)
                    simpa [sv] using hk
            · have b2 := bs_beq d dom
              rw [decide_eq_false e2] at b2
              go_wp2
              go_quiet (fail)
              go_wp2
              go_ret
              rw [HR.out, if_neg (fun e => e2 e.2)]
              exact ⟨rfl, HP3.out.keep ((Kept.refl _ _).drewN _)⟩
  · have h3 : ¬ s.stage = 3 := by omega
    have h4 : ¬ s.stage = 4 := by omega
    have hr : toP s us dom line.data.toList = (s, 503) := by unfold toP; rw [if_pos ⟨h3, h4⟩]
    have h3' : (s.stage != 3) = true := by simpa using h3
    have h4' : (s.stage != 4) = true := by simpa using h4
    rw [hr]
    clear hr
    go_enter Tryz.func49, Tryz.ntmps49
    go_wp2
    go_ret
    exact ⟨rfl, HP.out⟩
end Go.Proofs.YtahiahboneljaaaGreatDoor
