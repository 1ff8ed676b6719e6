/- The walks of the draws: users and passwords. -/
import Derived.Test.YtahiahboneljaaaGreatDoorKDa
namespace Go.Proofs.YtahiahboneljaaaGreatDoor
open Go.RowKit

/-- What a draw of users hands back. -/
def UsersRes (rb N : Nat) (w : World) (e : Ending) (w' : World) : Prop :=
  ∃ v, ∃ us : List Usr, e = .returned v ∧ UsersAt w.heap.size w' v us ∧ 1 ≤ us.length ∧ us.length ≤ 5 ∧ (∀ u ∈ us, u.name.length ≤ 40 ∧ u.pass.length ≤ 40) ∧ Kept [rb] w w' ∧ RdAt w' rb N

/-- Three users lie at g. -/
def UB (W : World) (g : Nat) (a b c : Usr) : Prop :=
  W.heap[g]? = some (.cells #[.string (bs a.name), .string (bs a.pass), .int .i64 a.quota, .string (bs b.name), .string (bs b.pass), .int .i64 b.quota, .string (bs c.name), .string (bs c.pass), .int .i64 c.quota] 35 (0, 0)) ∧
    ∀ u ∈ [a, b, c], u.name.length ≤ 40 ∧ u.pass.length ≤ 40

theorem UB.users {W : World} {g lo L : Nat} {a b c : Usr} (h : UB W g a b c) (hg : lo ≤ g) (h1 : 1 ≤ L) (h3 : L ≤ 3) : ∃ us : List Usr, us.length = L ∧ (∀ u ∈ us, u.name.length ≤ 40 ∧ u.pass.length ≤ 40) ∧ UsersAt lo W (.slice (some ⟨g, 0, none⟩) L 3) us := by
  obtain ⟨hb, hu⟩ := h
  have hl : ([a, b, c].take L).length = L := by simp; omega
  refine ⟨[a, b, c].take L, hl, fun u hm => hu u (List.mem_of_mem_take hm), _, 3, g, 0, by rw [hl], by rw [hl]; unfold bigN; omega, fun _ => ⟨rfl, hg, lt_of_block hb⟩, fun j hj => ?_⟩
  have hj3 : j < 3 := by rw [hl] at hj; omega
  have hx := hu ([a, b, c].take L)[j] (List.mem_of_mem_take (List.getElem_mem hj))
  refine ⟨?_, ?_, ?_, by have := hx.1; unfold bigN; omega, by have := hx.2; unfold bigN; omega⟩
  all_goals
    rw [cell_of_block hb]
    rcases (by omega : j = 0 ∨ j = 1 ∨ j = 2) with rfl | rfl | rfl <;> simp

theorem UB.own {W : World} {g base L : Nat} {a b c : Usr} (h : UB W g a b c) (hg : base ≤ g) (h1 : 1 ≤ L) (h3 : L ≤ 3) : W.ownsRow base 35 3 (.slice (some ⟨g, 0, none⟩) L 3) L (([a, b, c].take L).flatMap ucs) := by
  refine ⟨?_, .inr ⟨g, 3, _, rfl, hg, h.1, h3, by unfold maxLen; omega, rfl, ?_⟩⟩
  all_goals rcases (by omega : L = 1 ∨ L = 2 ∨ L = 3) with rfl | rfl | rfl <;> simp [ucs]

theorem UB.name {W : World} {g : Nat} {a b c : Usr} (h : UB W g a b c) (l : List UInt8) (hl : l.length ≤ 40) (k : Nat) (hk : k < 3) : ∃ a' b' c', UB (W.setCell ⟨g, k * 3, none⟩ (.string (bs l))) g a' b' c' := by
  obtain ⟨hb, hu⟩ := h
  have hs := set_of_block hb (i := k * 3) (.string (bs l))
  have ha := hu a (by simp); have hb' := hu b (by simp); have hc := hu c (by simp)
  rcases (by omega : k = 0 ∨ k = 1 ∨ k = 2) with rfl | rfl | rfl
  · exact ⟨⟨l, a.pass, a.quota⟩, b, c, by simpa using hs, by simp; exact ⟨⟨hl, ha.2⟩, hb', hc⟩⟩
  · exact ⟨a, ⟨l, b.pass, b.quota⟩, c, by simpa using hs, by simp; exact ⟨ha, ⟨hl, hb'.2⟩, hc⟩⟩
  · exact ⟨a, b, ⟨l, c.pass, c.quota⟩, by simpa using hs, by simp; exact ⟨ha, hb', ⟨hl, hc.2⟩⟩⟩
theorem UB.pass {W : World} {g : Nat} {a b c : Usr} (h : UB W g a b c) (l : List UInt8) (hl : l.length ≤ 40) (k : Nat) (hk : k < 3) : ∃ a' b' c', UB (W.setCell ⟨g, k * 3 + 1, none⟩ (.string (bs l))) g a' b' c' := by
  obtain ⟨hb, hu⟩ := h
  have hs := set_of_block hb (i := k * 3 + 1) (.string (bs l))
  have ha := hu a (by simp); have hb' := hu b (by simp); have hc := hu c (by simp)
  rcases (by omega : k = 0 ∨ k = 1 ∨ k = 2) with rfl | rfl | rfl
  · exact ⟨⟨a.name, l, a.quota⟩, b, c, by simpa using hs, by simp; exact ⟨⟨ha.1, hl⟩, hb', hc⟩⟩
  · exact ⟨a, ⟨b.name, l, b.quota⟩, c, by simpa using hs, by simp; exact ⟨ha, ⟨hb'.1, hl⟩, hc⟩⟩
  · exact ⟨a, b, ⟨c.name, l, c.quota⟩, by simpa using hs, by simp; exact ⟨ha, hb', ⟨hc.1, hl⟩⟩⟩
theorem UB.quota {W : World} {g : Nat} {a b c : Usr} (h : UB W g a b c) (q : Int) (k : Nat) (hk : k < 3) : ∃ a' b' c', UB (W.setCell ⟨g, k * 3 + 2, none⟩ (.int .i64 q)) g a' b' c' := by
  obtain ⟨hb, hu⟩ := h
  have hs := set_of_block hb (i := k * 3 + 2) (.int .i64 q)
  have ha := hu a (by simp); have hb' := hu b (by simp); have hc := hu c (by simp)
  rcases (by omega : k = 0 ∨ k = 1 ∨ k = 2) with rfl | rfl | rfl
  · exact ⟨⟨a.name, a.pass, q⟩, b, c, by simpa using hs, by simp; exact ⟨ha, hb', hc⟩⟩
  · exact ⟨a, ⟨b.name, b.pass, q⟩, c, by simpa using hs, by simp; exact ⟨ha, hb', hc⟩⟩
  · exact ⟨a, b, ⟨c.name, c.pass, q⟩, by simpa using hs, by simp; exact ⟨ha, hb', hc⟩⟩
theorem users_fin {w W : World} {rb g N M L : Nat} (hU : ∃ a b c, UB W g a b c) (hgw : w.heap.size ≤ g) (h1 : 1 ≤ L) (h3 : L ≤ 3) (K : Kept [rb] w W) (R : RdAt W rb M) (hM : M ≤ N) : UsersRes rb N w (.returned (.slice (some ⟨g, 0, none⟩) L 3)) W := by
  obtain ⟨a, b, c, hU⟩ := hU
  obtain ⟨us, hl, hb, hA⟩ := hU.users hgw h1 h3
  exact ⟨_, us, rfl, hA, by omega, by omega, hb, K, R.mono hM⟩
theorem users_set {w W : World} {rb g N M L j : Nat} {x : Value} (hU : ∃ a b c, UB (W.setCell ⟨g, j, none⟩ x) g a b c) (hgw : w.heap.size ≤ g) (h1 : 1 ≤ L) (h3 : L ≤ 3) (K : Kept [rb] w W) (R : RdAt W rb M) (hM : M ≤ N) (hr : rb < g) :
    UsersRes rb N w (.returned (.slice (some ⟨g, 0, none⟩) L 3)) (W.setCell ⟨g, j, none⟩ x) :=
  users_fin hU hgw h1 h3 (K.setCell _ _ (by intro h; dsimp only at h; omega)) (R.keptB (cs := [g]) ((Kept.refl [g] W).setCell _ _ (by simp)) (by simpa using hr)) hM

set_option maxHeartbeats 1000000 in
theorem l92Users_any (rb N : Nat) (w : World) (h : RdAt w rb N) (hN : N ≤ 999980) :
    Calls Tryz.prog 18 #[.pointer (some ⟨rb, 0, none⟩)] w (UsersRes rb (N + 10) w) := by
  have HW := hid h.lt
  have HP := hid (fun M (hM : M ≤ 20) n w h (hn : n ≤ 1000) => pick_any rb (N + M) n w h (by omega) (by omega))
  have HNM := hid (fun M (hM : M ≤ 15) w h => l91Name_any rb (N + M) w h (by omega))
  have HR := hid h
  clear h hN
  go_enter Tryz.func18, Tryz.ntmps18
  go_wp2_with fail
  refine (HP.out 0 (by omega) 60 _ HR.out (by omega)).mono ?_
  rintro e w1 ⟨x1, rfl, a0, -, a1, hK, hR⟩
  have HK1 := hid hK
  have HR1 := hid hR
  clear hK hR
  go_wp2_with fail
  refine (HP.out 1 (by omega) 100 _ HR1.out (by omega)).mono ?_
  rintro e w2 ⟨x2, rfl, b0, -, b1, hK, hR⟩
  have HK2 := hid hK
  have HR2 := hid hR
  clear hK hR
  go_wp2_with fail
  refine (HP.out 2 (by omega) 3 _ (HR2.out.kept ((Kept.refl [] _).alloc _)) (by omega)).mono ?_
  rintro e w3 ⟨x3, rfl, c0, c1, -, hK, hR⟩
  have hg : rb < w2.heap.size := Nat.lt_of_lt_of_le HW.out (HK1.out.trans HK2.out).size
  have hU : UB w3 w2.heap.size ⟨[97, 109, 121], [97, 49], 60⟩ ⟨[98, 111, 98], [98, 50], 20 + x1⟩ ⟨[99, 121, 100], [99, 51], 100 + x2⟩ := ⟨hK.same (new_block w2 _) (by simp; omega), by simp⟩
  have hg3 : w2.heap.size < w3.heap.size := lt_of_block hU.1
  have hKK : Kept [rb] w w3 := (HK1.out.trans HK2.out).trans (((Kept.refl [rb] w2).alloc _).trans hK)
  have hgw : w.heap.size ≤ w2.heap.size := (HK1.out.trans HK2.out).size
  generalize hgg : w2.heap.size = g at hU hg hg3 hgw ⊢
  generalize (⟨[97, 109, 121], [97, 49], 60⟩ : Usr) = ua at hU
  generalize (⟨[98, 111, 98], [98, 50], 20 + x1⟩ : Usr) = ub at hU
  generalize (⟨[99, 121, 100], [99, 51], 100 + x2⟩ : Usr) = uc at hU
  have HU3 := hid hU
  have HK3 := hid hKK
  have HR3 := hid hR
  have HG := hid hg
  have HGW := hid hgw
  have hc1 := c1 (by omega)
  obtain ⟨k3, rfl⟩ := Int.eq_ofNat_of_zero_le c0
  have hk3 : k3 < 3 := by omega
  clear hU hK hR hKK hg hgw c0 c1 a0 a1 b0 b1 hc1 HR2 HK2 hgg HK1 HR1 HR
  have e1 : (1 : Int) + k3 ≤ 3 := by omega
  go_wp2_with fail
  refine (HP.out 3 (by omega) _ _ HR3.out (by omega)).mono ?_
  rintro e w4 ⟨x4, rfl, c0, c1, -, hK, hR⟩
  have hc1 := c1 (by omega)
  obtain ⟨k4, rfl⟩ := Int.eq_ofNat_of_zero_le c0
  have hk4 : k4 < 1 + k3 := by omega
  have hU := HU3.out
  have hU4 : UB w4 g ua ub uc := ⟨hK.same hU.1 (by have := HG.out; simp; omega), hU.2⟩
  have HK4 := hid (HK3.out.trans hK)
  have HU4 := hid hU4
  have HR4 := hid hR
  clear hU hU4 HU3 HK3 HR3 hK hR c0 c1 hc1
  go_wp2_with fail
  refine (HP.out 4 (by omega) 20 _ HR4.out (by omega)).mono ?_
  rintro e w5 ⟨x5, rfl, c0, c1, -, hK, hR⟩
  have hU := HU4.out
  have hU5 : UB w5 g ua ub uc := ⟨hK.same hU.1 (by have := HG.out; simp; omega), hU.2⟩
  have HK5 := hid (HK4.out.trans hK)
  have HU5 := hid hU5
  have HR5 := hid hR
  clear hU hU5 HU4 HK4 HR4 hK hR c1 hg3
  have hg5 := lt_of_block HU5.out.1
  have hq : (k4 : Int) < 1 + k3 := by omega
  by_cases h50 : x5 = 0
  · subst h50
    go_wp2_with fail
    refine (HNM.out 5 (by omega) _ HR5.out).mono ?_
    rintro e w6 ⟨l, rfl, hl, hK, hR⟩
    have hU := HU5.out
    have hU6 : UB w6 g ua ub uc := ⟨hK.same hU.1 (by have := HG.out; simp; omega), hU.2⟩
    have HK6 := hid (HK5.out.trans hK)
    have HU6 := hid hU6
    have HR6 := hid hR
    clear hU hU6 HU5 HK5 HR5 hK hR
    have f := frozen_of_block HU6.out.1 (k4 * 3)
    have hg6 := lt_of_block HU6.out.1
    have HN := hid (fun j (hj : j = k4 * 3) => by rw [hj]; exact users_set (rb := rb) (N := N + 10) (L := 1 + k3) (HU6.out.name l hl k4 (by omega)) HGW.out (by omega) (by omega) HK6.out HR6.out (by omega) HG.out : ∀ j, j = k4 * 3 → UsersRes rb (N + 10) w (.returned (.slice (some ⟨g, 0, none⟩) (1 + k3) 3)) (w6.setCell ⟨g, j, none⟩ (.string (bs l))))
    rcases (by omega : k4 = 0 ∨ k4 = 1 ∨ k4 = 2) with rfl | rfl | rfl
    all_goals
      have c := cell_of_block HU6.out.1 0
      have c' := cell_of_block HU6.out.1 3
      have c'' := cell_of_block HU6.out.1 6
      simp at c c' c'' f hq
      go_wp2
      go_ret
      exact HN.out _ rfl
  · by_cases h51 : x5 = 1
    · subst h51
      go_wp2_with fail
      refine (HNM.out 5 (by omega) _ HR5.out).mono ?_
      rintro e w6 ⟨l, rfl, hl, hK, hR⟩
      have hU := HU5.out
      have hU6 : UB w6 g ua ub uc := ⟨hK.same hU.1 (by have := HG.out; simp; omega), hU.2⟩
      have HK6 := hid (HK5.out.trans hK)
      have HU6 := hid hU6
      have HR6 := hid hR
      clear hU hU6 HU5 HK5 HR5 hK hR
      have f := frozen_of_block HU6.out.1 (k4 * 3 + 1)
      have hg6 := lt_of_block HU6.out.1
      have HN := hid (fun j (hj : j = k4 * 3 + 1) => by rw [hj]; exact users_set (rb := rb) (N := N + 10) (L := 1 + k3) (HU6.out.pass l hl k4 (by omega)) HGW.out (by omega) (by omega) HK6.out HR6.out (by omega) HG.out : ∀ j, j = k4 * 3 + 1 → UsersRes rb (N + 10) w (.returned (.slice (some ⟨g, 0, none⟩) (1 + k3) 3)) (w6.setCell ⟨g, j, none⟩ (.string (bs l))))
      rcases (by omega : k4 = 0 ∨ k4 = 1 ∨ k4 = 2) with rfl | rfl | rfl
      all_goals
        have c := cell_of_block HU6.out.1 1
        have c' := cell_of_block HU6.out.1 4
        have c'' := cell_of_block HU6.out.1 7
        simp at c c' c'' f hq
        go_wp2
        go_ret
        exact HN.out _ rfl
    · by_cases h52 : x5 = 2
      · subst h52
        go_wp2_with fail
        refine (HP.out 5 (by omega) 4 _ (HR5.out.kept ((Kept.refl [] _).alloc _)) (by omega)).mono ?_
        rintro e w6 ⟨x6, rfl, d0, d1, -, hK, hR⟩
        have hU := HU5.out
        have hU6 : UB w6 g ua ub uc := ⟨hK.same (((Kept.refl [] w5).alloc _).same hU.1 (by simp)) (by have := HG.out; simp; omega), hU.2⟩
        have hA := hK.same (new_block w5 _) (by have := HR5.out.lt; simp; omega)
        have HK6 := hid ((HK5.out.alloc _).trans hK)
        have HU6 := hid hU6
        have HR6 := hid hR
        have hd1 := d1 (by omega)
        clear hU hU6 HU5 HK5 HR5 hK hR d1
        have f := frozen_of_block HU6.out.1 (k4 * 3 + 2)
        have hg6 := lt_of_block HU6.out.1
        have b0 := cell_of_block hA 0
        have b1 := cell_of_block hA 1
        have b2 := cell_of_block hA 2
        have b3 := cell_of_block hA 3
        simp at b0 b1 b2 b3
        clear hA
        have HN := hid (fun (q : Int) j (hj : j = k4 * 3 + 2) => by rw [hj]; exact users_set (rb := rb) (N := N + 10) (L := 1 + k3) (HU6.out.quota q k4 (by omega)) HGW.out (by omega) (by omega) HK6.out HR6.out (by omega) HG.out : ∀ (q : Int) j, j = k4 * 3 + 2 → UsersRes rb (N + 10) w (.returned (.slice (some ⟨g, 0, none⟩) (1 + k3) 3)) (w6.setCell ⟨g, j, none⟩ (.int .i64 q)))
        rcases (by omega : k4 = 0 ∨ k4 = 1 ∨ k4 = 2) with rfl | rfl | rfl
        all_goals
          have c := cell_of_block HU6.out.1 2
          have c' := cell_of_block HU6.out.1 5
          have c'' := cell_of_block HU6.out.1 8
          simp at c c' c'' f hq
          rcases (by omega : x6 = 0 ∨ x6 = 1 ∨ x6 = 2 ∨ x6 = 3) with rfl | rfl | rfl | rfl
          all_goals
            go_wp2
            go_ret
            exact HN.out _ _ rfl
      · by_cases h53 : x5 = 3
        · subst h53
          go_wp2_with (at_builtin; refine append_usrs rfl (.tmp 55) (.tmp 58) rfl w.heap.size _ (1 + k3) (([ua, ub, uc].take (1 + k3)).flatMap ucs) rfl (UB.own ⟨((Kept.refl [] w5).alloc _).same HU5.out.1 (by simp), HU5.out.2⟩ HGW.out (by omega) (by omega)) w5.heap.size 2 ([(⟨[100, 97, 110], [100, 52], 9⟩ : Usr), ⟨[101, 118, 101], [101, 53], 9⟩].flatMap ucs) rfl (new_block w5 _) rfl (by simp [ucs, Value.oneCell']) (by omega) (by omega) (by have := HK5.out.size; simp; omega) ?_; intro g' cap' w6 hO hG)
          go_ret
          have hl : ([ua, ub, uc].take (1 + k3) ++ [(⟨[100, 97, 110], [100, 52], 9⟩ : Usr), ⟨[101, 118, 101], [101, 53], 9⟩]).length = 1 + k3 + 2 := by simp; omega
          have hb : ∀ u ∈ [ua, ub, uc].take (1 + k3) ++ [(⟨[100, 97, 110], [100, 52], 9⟩ : Usr), ⟨[101, 118, 101], [101, 53], 9⟩], u.name.length ≤ 40 ∧ u.pass.length ≤ 40 := by
            intro u hu
            rcases List.mem_append.1 hu with h1 | h1
            · exact HU5.out.2 u (List.mem_of_mem_take h1)
            · simp at h1; rcases h1 with rfl | rfl <;> simp
          rw [← List.flatMap_append] at hO
          generalize [ua, ub, uc].take (1 + k3) ++ [(⟨[100, 97, 110], [100, 52], 9⟩ : Usr), ⟨[101, 118, 101], [101, 53], 9⟩] = us at hl hb hO
          rw [← hl] at hO
          rw [← hl]
          refine ⟨_, us, rfl, own_users hO (by omega) (by omega) hb, by omega, by omega, hb, (HK5.out.alloc _).grown hG ?_, (HR5.out.kept ((Kept.refl [] w5).alloc _)).keptB (cs := [g]) ((Kept.refl [g] _).grown hG ?_) (by have := HG.out; simpa using this) |>.mono (by omega)⟩
          · intro k e hk; have e : some g = some k := e; injection e with e; have := HGW.out; omega
          · intro k e hk; have e : some g = some k := e; injection e with e; simp [← e]
        · have e0 : (x5 == 0) = false := by rw [beq_eq_false_iff_ne]; exact h50
          have e1 : (x5 == 1) = false := by rw [beq_eq_false_iff_ne]; exact h51
          have e2 : (x5 == 2) = false := by rw [beq_eq_false_iff_ne]; exact h52
          have e3 : (x5 == 3) = false := by rw [beq_eq_false_iff_ne]; exact h53
          go_wp2
          go_ret
          exact users_fin ⟨_, _, _, HU5.out⟩ HGW.out (by omega) (by omega) HK5.out HR5.out (by omega)
end Go.Proofs.YtahiahboneljaaaGreatDoor
namespace Go.Proofs.YtahiahboneljaaaGreatDoor
open Go.RowKit

/-- What a draw of a string of any bounded length hands back. -/
def StrResB (rb N : Nat) (w : World) (e : Ending) (w' : World) : Prop := ∃ l : List UInt8, e = .returned (.string (bs l)) ∧ l.length ≤ bigN ∧ Kept [rb] w w' ∧ RdAt w' rb N

theorem find_cases (us : List Usr) (n : List UInt8) : findZ us n = -1 ∨ ∃ k : Nat, k < us.length ∧ findZ us n = (k : Int) := by
  rcases findZ_cases us n with ⟨h, -⟩ | ⟨k, hk, h, -⟩
  · exact .inl h
  · exact .inr ⟨k, hk, h⟩

set_option maxHeartbeats 1000000 in
theorem l92Pass_any (rb N : Nat) (v : Value) (us : List Usr) (nm : List UInt8) (w : World) (h : RdAt w rb N) (hN : N ≤ 999980) (hu : UsersAt (rb + 1) w v us) :
    Calls Tryz.prog 39 #[.pointer (some ⟨rb, 0, none⟩), v, .string (bs nm)] w (StrResB rb (N + 2) w) := by
  obtain ⟨ua, ucap, rfl⟩ := users_form hu
  have HF := hid (l14Find_any (rb + 1) (.slice ua us.length ucap) us (bs nm) w hu)
  have HP := hid (fun n w h (hn : n ≤ 1000) => pick_any rb N n w h (by omega) (by omega))
  have HO := hid (fun M (hM : M ≤ 1) w h => lits_of rb (N + M) [[97, 49], [98, 50], [120], []] (by decide) (by decide) (by decide) (by omega) w h)
  have HU := hid (fun w' (k : Kept [rb] w w') => hu.kept k (by simp))
  have HR := hid h
  have HZ := hid (find_cases us (bs nm).data.toList)
  generalize findZ us (bs nm).data.toList = z at HF HZ
  clear h hu hN
  rcases HZ.out with rfl | ⟨k, hk, rfl⟩
  · go_enter Tryz.func39, Tryz.ntmps39
    go_wp2_with fail
    refine HF.out.mono ?_
    rintro e w1 ⟨rfl, rfl⟩
    go_wp2_with fail
    refine (HO.out 0 (by omega) _ HR.out).mono ?_
    rintro e w2 ⟨l, rfl, hl, hK, hR⟩
    have HK2 := hid hK
    have HR2 := hid hR
    clear hK hR
    go_wp2
    go_ret
    exact ⟨l, rfl, by unfold bigN; omega, HK2.out, HR2.out.mono (by omega)⟩
  · have h1 : (0 : Int) ≤ k := by omega
    go_enter Tryz.func39, Tryz.ntmps39
    go_wp2_with fail
    refine HF.out.mono ?_
    rintro e w1 ⟨rfl, rfl⟩
    go_wp2_with fail
    refine (HP.out 4 _ HR.out (by omega)).mono ?_
    rintro e w2 ⟨x, rfl, x0, -, -, hK, hR⟩
    have HK2 := hid hK
    have HR2 := hid hR
    have hu2 := HU.out _ hK
    clear hK hR
    by_cases hx : x = 0
    · subst hx
      clear hu2
      go_wp2_with fail
      refine (HO.out 1 (by omega) _ HR2.out).mono ?_
      rintro e w3 ⟨l, rfl, hl, hK, hR⟩
      have HK3 := hid hK
      have HR3 := hid hR
      clear hK hR
      go_wp2
      go_ret
      exact ⟨l, rfl, by unfold bigN; omega, HK2.out.trans HK3.out, HR3.out.mono (by omega)⟩
    · have hx1 : 0 < x := by omega
      obtain ⟨a', cap', b, off, he, -, ha, hc⟩ := hu2
      obtain ⟨rfl, -, hb⟩ := ha (by omega)
      injection he with e1 e2 e3
      subst e1 e3
      obtain ⟨-, hc1, -, -, hl⟩ := hc k hk
      have hk' : (k : Int) < us.length := by omega
      clear hc ha
      go_wp2
      go_ret
      exact ⟨_, rfl, hl, HK2.out, HR2.out.mono (by omega)⟩
end Go.Proofs.YtahiahboneljaaaGreatDoor
