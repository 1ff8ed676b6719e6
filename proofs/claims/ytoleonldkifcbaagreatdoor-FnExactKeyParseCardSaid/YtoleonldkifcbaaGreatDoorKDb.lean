/- The walks of the draws: keys. -/
import Derived.Test.YtoleonldkifcbaaGreatDoorKDa
import Derived.Test.YtoleonldkifcbaaGreatDoorKKf
import Derived.Deep.RegionLaw
namespace Go.Proofs.YtoleonldkifcbaaGreatDoor
open Go.RowKit

/-- What a draw of a key hands back. -/
def KeyDRes (rb N m : Nat) (w : World) (e : Ending) (w' : World) : Prop :=
  ∃ (k : Ky) (sv kv : Value), e = .returned (.agg #[.int .i64 k.kind, .int .i64 k.flag, .string (bs k.text), sv, kv]) ∧ Kept [rb] w w' ∧ KeyX w.heap.size w'.heap.size w' k sv kv ∧ nodesK k ≤ m ∧ RdAt w' rb N
def costD : Nat → Nat
  | 0 => 70
  | d + 1 => 2 * costD d + 72
def manyD : Nat → Nat
  | 0 => 1
  | d + 1 => 1 + 2 * manyD d
/-- Draws of keys of such a depth go well. -/
def DrawsGo (d : Nat) : Prop := ∀ (rb N : Nat) (w : World), RdAt w rb N → N + costD d ≤ 999900 → Calls Tryz.prog 26 #[.pointer (some ⟨rb, 0, none⟩), .int .i64 d] w (KeyDRes rb (N + costD d) (manyD d) w)

theorem own_by_heap {w w' : World} {base : Nat} {e : TypeId} {size : Nat} {v : Value} {n : Nat} {xs : List Value} (h : w.ownsRow base e size v n xs) (hh : w'.heap = w.heap) : w'.ownsRow base e size v n xs := by
  obtain ⟨h1, h2⟩ := h
  refine ⟨h1, ?_⟩
  rcases h2 with h2 | ⟨g, cap, cur, hv, hg, hc, rest⟩
  · exact .inl h2
  · exact .inr ⟨g, cap, cur, hv, hg, by rw [hh]; exact hc, rest⟩
/-- append at a step of a region that draws its order. -/
theorem step_append_where (T E : TypeId) (z : Value) (size bytes : Nat) (hT : Tryz.prog.underlying T = some (.slice E)) (hE : (Tryz.prog.info? E).map (fun i => (i.zero, i.size, i.bytes)) = some (some z, size, bytes))
    (hz : z.cells.size = size) (h0 : 0 < size) (h1 : bytes ≤ 1000)
    {ops : Array Oper} {o : Oper} {a : Act} {w : World} {K : Act → World → Prop} {Q : Exit → Act → World → Prop} {EE : Prop} (hgd : o.guard = none) (s x : Operand)
    (ho : o.op = .call { callee := .builtin .append, args := #[s, x], argTypes := #[T, T] })
    (base : Nat) (v : Value) (n : Nat) (xs : List Value) (hs : a.eval s = v) (hown : w.ownsRow base E size v n xs)
    (g0 m cap0 : Nat) (news : List Value) (hx : a.eval x = .slice (some ⟨g0, 0, none⟩) m cap0) (cs : Array Value) (fz : Nat × Nat) (hb : w.heap[g0]? = some (.cells cs E fz)) (hcs : cs.toList.take (m * size) = news) (hm : news.length = m * size) (hu : ∀ u ∈ news, u.oneCell' = true) (hn : n + m ≤ bigN) (hn0 : 0 < m) (hbase : base ≤ w.heap.size)
    (h : ∀ g cap w', w'.ownsRow base E size (.slice (some ⟨g, 0, none⟩) (n + m) cap) (n + m) (xs ++ news) → w.grownBy w' v.ownBlock → (v.ownBlock = some g ∨ g = w.heap.size) → g < w'.heap.size → K (a.put o.dst (.slice (some ⟨g, 0, none⟩) (n + m) cap)) w') :
    if Region.wanted o (yielded ops a.tmps) = true then Oper.wp Tryz.prog o a w K Q else EE := by
  obtain ⟨i0, hi, hz0, hz1, hz2⟩ := info_parts hE
  refine step_append_lies w hgd s x T ho base E i0 z size bytes hT hi hz0 hz1 hz2 hz h0 v n xs hs hown ⟨g0, 0, none⟩ m cap0 news hx hm ?_ hu hn0 ?_ ?_ hbase _ rfl h
  · intro j u hj
    rw [Addr.add_lit, Nat.zero_add, cell_of_block hb]
    rw [← hcs] at hj
    rw [List.getElem?_take] at hj
    split at hj
    · simpa using hj
    · cases hj
  · unfold bigN at hn; unfold maxLen; omega
  · unfold bigN at hn
    refine Nat.le_trans (Nat.mul_le_mul hn h1) (by decide)
/-- Behind the stores into the result. -/
theorem keyD_back {rb N m A : Nat} {w w2 w3 : World} {k : Ky} {sv kv : Value} {lo hi : Nat} (hX : KeyX lo hi w2 k sv kv) (hlo : A < lo) (hwA : w.heap.size ≤ A) (hrb : rb < w.heap.size) (hhi : hi ≤ w3.heap.size) (hK : Kept [rb] w w2) (hK3 : Kept [A] w2 w3) (hR : RdAt w2 rb N) (hm : nodesK k ≤ m) :
    KeyDRes rb N m w (.returned (.agg #[.int .i64 k.kind, .int .i64 k.flag, .string (bs k.text), sv, kv])) w3 :=
  ⟨k, sv, kv, rfl, hK.trans' hK3 (fun _ e _ => e) (fun z e hz => by simp at e; omega), (KeyX.kept hK3 (by simp; omega) k _ _ hX).wide (by omega) hhi, hm, hR.keptB hK3 (by simp; omega)⟩

set_option maxRecDepth 100000 in
set_option maxHeartbeats 8000000 in
theorem draws_zero : DrawsGo 0 := by
  intro rb N w h hN
  have hlt := h.lt
  have HP := hid (fun M (hM : M ≤ 40) n W (hW : RdAt W rb (N + M)) (hn : n ≤ 1000) => pick_any rb (N + M) n W hW (by omega) (by omega))
  have HZ := hid (new_block w (Obj.cells #[.int .i64 0, .int .i64 0, .string ⟨#[]⟩, .slice none 0 0, .slice none 0 0] 26))
  have KZ := hid ((Kept.refl [rb] w).alloc (Obj.cells #[.int .i64 0, .int .i64 0, .string ⟨#[]⟩, .slice none 0 0, .slice none 0 0] 26))
  have HR := hid (h.kept ((Kept.refl [] w).alloc (Obj.cells #[.int .i64 0, .int .i64 0, .string ⟨#[]⟩, .slice none 0 0, .slice none 0 0] 26)))
  have hN1 : N ≤ 999830 := by unfold costD at hN; omega
  clear h hN
  go_enter Tryz.func26, Tryz.ntmps26
  go_wp2_with fail
  refine (HP.out (0) (by omega) 9 _ (by simpa [Nat.add_assoc] using HR.out) (by omega)).mono ?_
  rintro e w5 ⟨x9, rfl, x90, x91, -, hK, hR⟩
  have h9 := x91 (by omega)
  have HK5 := hid (KZ.out.trans hK)
  have HR5 := hid (hR.mono (show _ ≤ N + (0 + 1) by omega))
  have HZ5 := hid (hK.same HZ.out (by simp; omega))
  have hs5 := HK5.out.size
  clear hK hR x91
  rcases (by omega : x9 = 0 ∨ x9 = 1 ∨ x9 = 2 ∨ x9 = 3 ∨ x9 = 4 ∨ x9 = 5 ∨ x9 = 6 ∨ x9 = 7 ∨ x9 = 8) with rfl | rfl | rfl | rfl | rfl | rfl | rfl | rfl | rfl
  · have HZ6 := HZ5
    have hz := HZ6.out
    have z0 := cell_of_block hz 0
    have z1 := cell_of_block hz 1
    have z2 := cell_of_block hz 2
    have z3 := cell_of_block hz 3
    have z4 := cell_of_block hz 4
    simp at z0 z1 z2 z3 z4
    have f0 := frozen_of_block hz 0
    have f1 := frozen_of_block hz 1
    have f2 := frozen_of_block hz 2
    have f3 := frozen_of_block hz 3
    have f4 := frozen_of_block hz 4
    have hzl := lt_of_block hz
    clear hz
    go_wp2
    refine bodyPost_ret (v := .agg #[.int .i64 0, .int .i64 0, .string ⟨#[]⟩, .slice none 0 0, .slice none 0 0]) (by simp [results, Tryz.results26, go_sem, z0, z1, z2, z3, z4]) rfl ?_
    refine keyD_back (A := w.heap.size) (w2 := w5) (k := .mk 0 0 [] [] []) (lo := w5.heap.size) (hi := w5.heap.size) (keyX_leaf _ _ _ _ _ (Nat.zero_le _) (spansX_none _ _ _)) (by have := lt_of_block HZ5.out; omega) (Nat.le_refl _) hlt (by simp [World.setCell]) HK5.out ?_ (HR5.out.mono (by unfold costD; omega)) (by unfold nodesK nodesL manyD; omega)
    repeat' with_reducible first | exact Kept.refl _ _ | refine Kept.drew ?_ | refine Kept.drewN ?_ _ | refine Kept.alloc ?_ _ | refine Kept.setCell ?_ _ _ (by first | (simp; done) | (simp; omega))
  · go_wp2_with fail
    refine (lits_of rb (N + (0 + 1)) [[98, 111, 98], [120], [97, 109, 121], [111]] (by decide) (by decide) (by decide) (by omega) _ HR5.out).mono ?_
    rintro e w6 ⟨l, rfl, hl, hK, hR⟩
    have HZ6 := hid (hK.same HZ5.out (by simp; omega))
    have HK6 := hid (HK5.out.trans hK)
    have HR6 := hid hR
    have hs6 := hK.size
    clear hK hR
    have hz := HZ6.out
    have z0 := cell_of_block hz 0
    have z1 := cell_of_block hz 1
    have z2 := cell_of_block hz 2
    have z3 := cell_of_block hz 3
    have z4 := cell_of_block hz 4
    simp at z0 z1 z2 z3 z4
    have f0 := frozen_of_block hz 0
    have f1 := frozen_of_block hz 1
    have f2 := frozen_of_block hz 2
    have f3 := frozen_of_block hz 3
    have f4 := frozen_of_block hz 4
    have hzl := lt_of_block hz
    clear hz
    go_wp2
    refine bodyPost_ret (v := .agg #[.int .i64 2, .int .i64 0, .string (bs l), .slice none 0 0, .slice none 0 0]) (by simp [results, Tryz.results26, go_sem, z0, z1, z2, z3, z4]) rfl ?_
    refine keyD_back (A := w.heap.size) (w2 := w6) (k := .mk 2 0 l [] []) (lo := w5.heap.size) (hi := w6.heap.size) (keyX_leaf _ _ _ _ _ (by unfold bigN; omega) (spansX_none _ _ _)) (by have := lt_of_block HZ5.out; omega) (Nat.le_refl _) hlt (by simp [World.setCell]) HK6.out ?_ (HR6.out.mono (by unfold costD; omega)) (by unfold nodesK nodesL manyD; omega)
    repeat' with_reducible first | exact Kept.refl _ _ | refine Kept.drew ?_ | refine Kept.drewN ?_ _ | refine Kept.alloc ?_ _ | refine Kept.setCell ?_ _ _ (by first | (simp; done) | (simp; omega))
  · go_wp2_with fail
    refine (lits_of rb (N + (0 + 1)) [[98, 111, 98], [120], [97, 109, 121], [111]] (by decide) (by decide) (by decide) (by omega) _ HR5.out).mono ?_
    rintro e w6 ⟨l, rfl, hl, hK, hR⟩
    have HZ6 := hid (hK.same HZ5.out (by simp; omega))
    have HK6 := hid (HK5.out.trans hK)
    have HR6 := hid hR
    have hs6 := hK.size
    clear hK hR
    have hz := HZ6.out
    have z0 := cell_of_block hz 0
    have z1 := cell_of_block hz 1
    have z2 := cell_of_block hz 2
    have z3 := cell_of_block hz 3
    have z4 := cell_of_block hz 4
    simp at z0 z1 z2 z3 z4
    have f0 := frozen_of_block hz 0
    have f1 := frozen_of_block hz 1
    have f2 := frozen_of_block hz 2
    have f3 := frozen_of_block hz 3
    have f4 := frozen_of_block hz 4
    have hzl := lt_of_block hz
    clear hz
    go_wp2
    refine bodyPost_ret (v := .agg #[.int .i64 2, .int .i64 0, .string (bs l), .slice none 0 0, .slice none 0 0]) (by simp [results, Tryz.results26, go_sem, z0, z1, z2, z3, z4]) rfl ?_
    refine keyD_back (A := w.heap.size) (w2 := w6) (k := .mk 2 0 l [] []) (lo := w5.heap.size) (hi := w6.heap.size) (keyX_leaf _ _ _ _ _ (by unfold bigN; omega) (spansX_none _ _ _)) (by have := lt_of_block HZ5.out; omega) (Nat.le_refl _) hlt (by simp [World.setCell]) HK6.out ?_ (HR6.out.mono (by unfold costD; omega)) (by unfold nodesK nodesL manyD; omega)
    repeat' with_reducible first | exact Kept.refl _ _ | refine Kept.drew ?_ | refine Kept.drewN ?_ _ | refine Kept.alloc ?_ _ | refine Kept.setCell ?_ _ _ (by first | (simp; done) | (simp; omega))
  · go_wp2_with fail
    refine (l91Set_any rb (N + (0 + 1)) _ HR5.out (by omega)).mono ?_
    rintro e w6 ⟨v, d6, rfl, hd, hX, hK, hR⟩
    obtain ⟨sa6, sc6, sb6, rfl, hx⟩ := id hX
    have HX6 := hid hX
    have HZ6 := hid (hK.same HZ5.out (by simp; omega))
    have HK6 := hid (HK5.out.trans hK)
    have HR6 := hid hR
    have hs6 := hK.size
    clear hK hR hX hx
    have hz := HZ6.out
    have z0 := cell_of_block hz 0
    have z1 := cell_of_block hz 1
    have z2 := cell_of_block hz 2
    have z3 := cell_of_block hz 3
    have z4 := cell_of_block hz 4
    simp at z0 z1 z2 z3 z4
    have f0 := frozen_of_block hz 0
    have f1 := frozen_of_block hz 1
    have f2 := frozen_of_block hz 2
    have f3 := frozen_of_block hz 3
    have f4 := frozen_of_block hz 4
    have hzl := lt_of_block hz
    clear hz
    go_wp2
    refine bodyPost_ret (v := .agg #[.int .i64 3, .int .i64 0, .string ⟨#[]⟩, .slice sa6 d6.length sc6, .slice none 0 0]) (by simp [results, Tryz.results26, go_sem, z0, z1, z2, z3, z4]) rfl ?_
    refine keyD_back (A := w.heap.size) (w2 := w6) (k := .mk 3 0 [] d6 []) (lo := w5.heap.size) (hi := w6.heap.size) (keyX_leaf _ _ _ _ _ (Nat.zero_le _) HX6.out) (by have := lt_of_block HZ5.out; omega) (Nat.le_refl _) hlt (by simp [World.setCell]) HK6.out ?_ (HR6.out.mono (by unfold costD; omega)) (by unfold nodesK nodesL manyD; omega)
    repeat' with_reducible first | exact Kept.refl _ _ | refine Kept.drew ?_ | refine Kept.drewN ?_ _ | refine Kept.alloc ?_ _ | refine Kept.setCell ?_ _ _ (by first | (simp; done) | (simp; omega))
  · go_wp2_with fail
    refine (l91Set_any rb (N + (0 + 1)) _ HR5.out (by omega)).mono ?_
    rintro e w6 ⟨v, d6, rfl, hd, hX, hK, hR⟩
    obtain ⟨sa6, sc6, sb6, rfl, hx⟩ := id hX
    have HX6 := hid hX
    have HZ6 := hid (hK.same HZ5.out (by simp; omega))
    have HK6 := hid (HK5.out.trans hK)
    have HR6 := hid hR
    have hs6 := hK.size
    clear hK hR hX hx
    have hz := HZ6.out
    have z0 := cell_of_block hz 0
    have z1 := cell_of_block hz 1
    have z2 := cell_of_block hz 2
    have z3 := cell_of_block hz 3
    have z4 := cell_of_block hz 4
    simp at z0 z1 z2 z3 z4
    have f0 := frozen_of_block hz 0
    have f1 := frozen_of_block hz 1
    have f2 := frozen_of_block hz 2
    have f3 := frozen_of_block hz 3
    have f4 := frozen_of_block hz 4
    have hzl := lt_of_block hz
    clear hz
    go_wp2
    refine bodyPost_ret (v := .agg #[.int .i64 3, .int .i64 0, .string ⟨#[]⟩, .slice sa6 d6.length sc6, .slice none 0 0]) (by simp [results, Tryz.results26, go_sem, z0, z1, z2, z3, z4]) rfl ?_
    refine keyD_back (A := w.heap.size) (w2 := w6) (k := .mk 3 0 [] d6 []) (lo := w5.heap.size) (hi := w6.heap.size) (keyX_leaf _ _ _ _ _ (Nat.zero_le _) HX6.out) (by have := lt_of_block HZ5.out; omega) (Nat.le_refl _) hlt (by simp [World.setCell]) HK6.out ?_ (HR6.out.mono (by unfold costD; omega)) (by unfold nodesK nodesL manyD; omega)
    repeat' with_reducible first | exact Kept.refl _ _ | refine Kept.drew ?_ | refine Kept.drewN ?_ _ | refine Kept.alloc ?_ _ | refine Kept.setCell ?_ _ _ (by first | (simp; done) | (simp; omega))
  · go_wp2_with fail
    refine (l91Set_any rb (N + (0 + 1)) _ HR5.out (by omega)).mono ?_
    rintro e w6 ⟨v, d6, rfl, hd, hX, hK, hR⟩
    obtain ⟨sa6, sc6, sb6, rfl, hx⟩ := id hX
    have HX6 := hid hX
    have HZ6 := hid (hK.same HZ5.out (by simp; omega))
    have HK6 := hid (HK5.out.trans hK)
    have HR6 := hid hR
    have hs6 := hK.size
    clear hK hR hX hx
    have hz := HZ6.out
    have z0 := cell_of_block hz 0
    have z1 := cell_of_block hz 1
    have z2 := cell_of_block hz 2
    have z3 := cell_of_block hz 3
    have z4 := cell_of_block hz 4
    simp at z0 z1 z2 z3 z4
    have f0 := frozen_of_block hz 0
    have f1 := frozen_of_block hz 1
    have f2 := frozen_of_block hz 2
    have f3 := frozen_of_block hz 3
    have f4 := frozen_of_block hz 4
    have hzl := lt_of_block hz
    clear hz
    go_wp2
    refine bodyPost_ret (v := .agg #[.int .i64 4, .int .i64 0, .string ⟨#[]⟩, .slice sa6 d6.length sc6, .slice none 0 0]) (by simp [results, Tryz.results26, go_sem, z0, z1, z2, z3, z4]) rfl ?_
    refine keyD_back (A := w.heap.size) (w2 := w6) (k := .mk 4 0 [] d6 []) (lo := w5.heap.size) (hi := w6.heap.size) (keyX_leaf _ _ _ _ _ (Nat.zero_le _) HX6.out) (by have := lt_of_block HZ5.out; omega) (Nat.le_refl _) hlt (by simp [World.setCell]) HK6.out ?_ (HR6.out.mono (by unfold costD; omega)) (by unfold nodesK nodesL manyD; omega)
    repeat' with_reducible first | exact Kept.refl _ _ | refine Kept.drew ?_ | refine Kept.drewN ?_ _ | refine Kept.alloc ?_ _ | refine Kept.setCell ?_ _ _ (by first | (simp; done) | (simp; omega))
  · go_wp2_with fail
    refine (l91Set_any rb (N + (0 + 1)) _ HR5.out (by omega)).mono ?_
    rintro e w6 ⟨v, d6, rfl, hd, hX, hK, hR⟩
    obtain ⟨sa6, sc6, sb6, rfl, hx⟩ := id hX
    have HX6 := hid hX
    have HZ6 := hid (hK.same HZ5.out (by simp; omega))
    have HK6 := hid (HK5.out.trans hK)
    have HR6 := hid hR
    have hs6 := hK.size
    clear hK hR hX hx
    have hz := HZ6.out
    have z0 := cell_of_block hz 0
    have z1 := cell_of_block hz 1
    have z2 := cell_of_block hz 2
    have z3 := cell_of_block hz 3
    have z4 := cell_of_block hz 4
    simp at z0 z1 z2 z3 z4
    have f0 := frozen_of_block hz 0
    have f1 := frozen_of_block hz 1
    have f2 := frozen_of_block hz 2
    have f3 := frozen_of_block hz 3
    have f4 := frozen_of_block hz 4
    have hzl := lt_of_block hz
    clear hz
    go_wp2
    refine bodyPost_ret (v := .agg #[.int .i64 4, .int .i64 0, .string ⟨#[]⟩, .slice sa6 d6.length sc6, .slice none 0 0]) (by simp [results, Tryz.results26, go_sem, z0, z1, z2, z3, z4]) rfl ?_
    refine keyD_back (A := w.heap.size) (w2 := w6) (k := .mk 4 0 [] d6 []) (lo := w5.heap.size) (hi := w6.heap.size) (keyX_leaf _ _ _ _ _ (Nat.zero_le _) HX6.out) (by have := lt_of_block HZ5.out; omega) (Nat.le_refl _) hlt (by simp [World.setCell]) HK6.out ?_ (HR6.out.mono (by unfold costD; omega)) (by unfold nodesK nodesL manyD; omega)
    repeat' with_reducible first | exact Kept.refl _ _ | refine Kept.drew ?_ | refine Kept.drewN ?_ _ | refine Kept.alloc ?_ _ | refine Kept.setCell ?_ _ _ (by first | (simp; done) | (simp; omega))
  · go_wp2_with fail
    refine (HP.out (0 + 1) (by omega) 5 _ HR5.out (by omega)).mono ?_
    rintro e w7 ⟨x7, rfl, x70, x71, -, hK, hR⟩
    have h7 := x71 (by omega)
    obtain ⟨y7, rfl⟩ := Int.eq_ofNat_of_zero_le x70
    have HZ7 := hid (hK.same HZ5.out (by simp; omega))
    have HK7 := hid (HK5.out.trans hK)
    have HR7 := hid hR
    have hs7 := hK.size
    clear hK hR x71
    go_wp2_with fail
    refine (l4Bit_any y7 (by omega) _).mono ?_
    rintro e w6 ⟨rfl, hK⟩
    have HZ6 := hid (hK.same HZ7.out (by simp))
    have HK6 := hid (HK7.out.trans hK.nil)
    have HR6 := hid (HR7.out.kept hK)
    have hs6 := hK.size
    clear hK
    obtain ⟨b7, hb7⟩ : ∃ b7, bitN y7 = b7 := ⟨_, rfl⟩
    rw [hb7]
    clear hb7
    have hz := HZ6.out
    have z0 := cell_of_block hz 0
    have z1 := cell_of_block hz 1
    have z2 := cell_of_block hz 2
    have z3 := cell_of_block hz 3
    have z4 := cell_of_block hz 4
    simp at z0 z1 z2 z3 z4
    have f0 := frozen_of_block hz 0
    have f1 := frozen_of_block hz 1
    have f2 := frozen_of_block hz 2
    have f3 := frozen_of_block hz 3
    have f4 := frozen_of_block hz 4
    have hzl := lt_of_block hz
    clear hz
    go_wp2
    refine bodyPost_ret (v := .agg #[.int .i64 1, .int .i64 b7, .string ⟨#[]⟩, .slice none 0 0, .slice none 0 0]) (by simp [results, Tryz.results26, go_sem, z0, z1, z2, z3, z4]) rfl ?_
    refine keyD_back (A := w.heap.size) (w2 := w6) (k := .mk 1 b7 [] [] []) (lo := w5.heap.size) (hi := w6.heap.size) (keyX_leaf _ _ _ _ _ (Nat.zero_le _) (spansX_none _ _ _)) (by have := lt_of_block HZ5.out; omega) (Nat.le_refl _) hlt (by simp [World.setCell]) HK6.out ?_ (HR6.out.mono (by unfold costD; omega)) (by unfold nodesK nodesL manyD; omega)
    repeat' with_reducible first | exact Kept.refl _ _ | refine Kept.drew ?_ | refine Kept.drewN ?_ _ | refine Kept.alloc ?_ _ | refine Kept.setCell ?_ _ _ (by first | (simp; done) | (simp; omega))
  · go_wp2_with fail
    refine (HP.out (0 + 1) (by omega) 5 _ HR5.out (by omega)).mono ?_
    rintro e w7 ⟨x7, rfl, x70, x71, -, hK, hR⟩
    have h7 := x71 (by omega)
    obtain ⟨y7, rfl⟩ := Int.eq_ofNat_of_zero_le x70
    have HZ7 := hid (hK.same HZ5.out (by simp; omega))
    have HK7 := hid (HK5.out.trans hK)
    have HR7 := hid hR
    have hs7 := hK.size
    clear hK hR x71
    go_wp2_with fail
    refine (l4Bit_any y7 (by omega) _).mono ?_
    rintro e w6 ⟨rfl, hK⟩
    have HZ6 := hid (hK.same HZ7.out (by simp))
    have HK6 := hid (HK7.out.trans hK.nil)
    have HR6 := hid (HR7.out.kept hK)
    have hs6 := hK.size
    clear hK
    obtain ⟨b7, hb7⟩ : ∃ b7, bitN y7 = b7 := ⟨_, rfl⟩
    rw [hb7]
    clear hb7
    have hz := HZ6.out
    have z0 := cell_of_block hz 0
    have z1 := cell_of_block hz 1
    have z2 := cell_of_block hz 2
    have z3 := cell_of_block hz 3
    have z4 := cell_of_block hz 4
    simp at z0 z1 z2 z3 z4
    have f0 := frozen_of_block hz 0
    have f1 := frozen_of_block hz 1
    have f2 := frozen_of_block hz 2
    have f3 := frozen_of_block hz 3
    have f4 := frozen_of_block hz 4
    have hzl := lt_of_block hz
    clear hz
    go_wp2
    refine bodyPost_ret (v := .agg #[.int .i64 1, .int .i64 b7, .string ⟨#[]⟩, .slice none 0 0, .slice none 0 0]) (by simp [results, Tryz.results26, go_sem, z0, z1, z2, z3, z4]) rfl ?_
    refine keyD_back (A := w.heap.size) (w2 := w6) (k := .mk 1 b7 [] [] []) (lo := w5.heap.size) (hi := w6.heap.size) (keyX_leaf _ _ _ _ _ (Nat.zero_le _) (spansX_none _ _ _)) (by have := lt_of_block HZ5.out; omega) (Nat.le_refl _) hlt (by simp [World.setCell]) HK6.out ?_ (HR6.out.mono (by unfold costD; omega)) (by unfold nodesK nodesL manyD; omega)
    repeat' with_reducible first | exact Kept.refl _ _ | refine Kept.drew ?_ | refine Kept.drewN ?_ _ | refine Kept.alloc ?_ _ | refine Kept.setCell ?_ _ _ (by first | (simp; done) | (simp; omega))

set_option maxRecDepth 100000 in
set_option maxHeartbeats 8000000 in
theorem draws_step (d : Nat) (hd : d ≤ 100) (hG : DrawsGo d) : DrawsGo (d + 1) := by
  intro rb N w h hN
  have hlt := h.lt
  have HP := hid (fun M (hM : M ≤ 40) n W (hW : RdAt W rb (N + M)) (hn : n ≤ 1000) => pick_any rb (N + M) n W hW (by omega) (by omega))
  have HZ := hid (new_block w (Obj.cells #[.int .i64 0, .int .i64 0, .string ⟨#[]⟩, .slice none 0 0, .slice none 0 0] 26))
  have KZ := hid ((Kept.refl [rb] w).alloc (Obj.cells #[.int .i64 0, .int .i64 0, .string ⟨#[]⟩, .slice none 0 0, .slice none 0 0] 26))
  have HR := hid (h.kept ((Kept.refl [] w).alloc (Obj.cells #[.int .i64 0, .int .i64 0, .string ⟨#[]⟩, .slice none 0 0, .slice none 0 0] 26)))
  have HN : Hid (N + (2 * costD d + 72) ≤ 999900) := hN
  have HCO : Hid (costD (d + 1) = 2 * costD d + 72 ∧ manyD (d + 1) = 1 + 2 * manyD d) := ⟨rfl, rfl⟩
  have hN1 : N ≤ 999828 := by have := HN.out; omega
  rw [HCO.out.1, HCO.out.2]
  rw [show ((d + 1 : Nat) : Int) = (d : Int) + 1 by omega]
  have hd0 : (0 : Int) < (d : Int) + 1 := by omega
  have hwd : IntKind.i64.wrap (d : Int) = d := wraps_i64_31 _ (by omega) (by omega)
  clear h hN
  go_enter Tryz.func26, Tryz.ntmps26
  go_wp2_with fail
  refine (HP.out 0 (by omega) 2 _ HR.out (by omega)).mono ?_
  rintro e w1 ⟨x1, rfl, x10, x11, -, hK, hR⟩
  have HK1 := hid (KZ.out.trans hK)
  have HR1 := hid hR
  have HZ1 := hid (hK.same HZ.out (by simp; omega))
  clear hK hR x11
  by_cases hx1 : x1 = 0
  · subst hx1
    go_wp2_with fail
    refine (HP.out 1 (by omega) 3 _ HR1.out (by omega)).mono ?_
    rintro e w2 ⟨x2, rfl, x20, x21, -, hK, hR⟩
    have h2 := x21 (by omega)
    have HK2 := hid (HK1.out.trans hK)
    have HR2 := hid hR
    have HZ2 := hid (hK.same HZ1.out (by simp; omega))
    clear hK hR x21
    rcases (by omega : x2 = 0 ∨ x2 = 1 ∨ x2 = 2) with rfl | rfl | rfl
    · have HA := hid (alloc_block HZ2.out (Obj.cells #[.int .i64 5, .int .i64 0, .string ⟨#[]⟩, .slice none 0 0, .slice none 0 0] 26))
      have HB := hid (new_block w2 (Obj.cells #[.int .i64 5, .int .i64 0, .string ⟨#[]⟩, .slice none 0 0, .slice none 0 0] 26))
      have HKB := hid (HK2.out.alloc (Obj.cells #[.int .i64 5, .int .i64 0, .string ⟨#[]⟩, .slice none 0 0, .slice none 0 0] 26))
      have HRB := hid (HR2.out.kept ((Kept.refl [] w2).alloc (Obj.cells #[.int .i64 5, .int .i64 0, .string ⟨#[]⟩, .slice none 0 0, .slice none 0 0] 26)))
      have hbb : w.heap.size < w2.heap.size := lt_of_block HZ2.out
      obtain ⟨bb, hbq⟩ : ∃ bb, w2.heap.size = bb := ⟨_, rfl⟩
      rw [hbq] at HB hbb
      go_wp2
      go_loopg [6] 1 (fun m i W => (m = 1 ∧ i = .int .i64 0 ∧ W.heap[w.heap.size]? = some (.cells #[.int .i64 0, .int .i64 0, .string ⟨#[]⟩, .slice none 0 0, .slice none 0 0] 26 (0, 0)) ∧ W.heap[bb]? = some (.cells #[.int .i64 5, .int .i64 0, .string ⟨#[]⟩, .slice none 0 0, .slice none 0 0] 26 (0, 0)) ∧ bb + 1 ≤ W.heap.size ∧ Kept [rb] w W ∧ RdAt W rb (N + 2)) ∨
        (m = 0 ∧ i = .int .i64 1 ∧ ∃ (k1 : Ky) (g cap x1 y1 H : Nat) (sv1 kv1 : Value), nodesK k1 ≤ manyD d ∧ W.heap[w.heap.size]? = some (.cells #[.int .i64 0, .int .i64 0, .string ⟨#[]⟩, .slice none 0 0, .slice none 0 0] 26 (0, 0)) ∧ W.heap[bb]? = some (.cells #[.int .i64 5, .int .i64 0, .string ⟨#[]⟩, .slice none 0 0, .slice (some ⟨g, 0, none⟩) 1 cap] 26 (0, 0)) ∧
        W.ownsRow H 26 5 (.slice (some ⟨g, 0, none⟩) 1 cap) 1 (kcs k1 sv1 kv1) ∧ KeyX x1 y1 W k1 sv1 kv1 ∧ bb + 1 ≤ x1 ∧ x1 ≤ y1 ∧ y1 ≤ H ∧ g < W.heap.size ∧ Kept [rb] w W ∧ RdAt W rb (N + 2 + costD d)))
      case atStart => exact .inl ⟨rfl, rfl, by first | exact HA.out | (rw [← hbq]; exact HA.out), by rw [← hbq] at HB ⊢; exact HB.out, by rw [← hbq]; simp, HKB.out, HRB.out⟩
      case round =>
        rcases hrel with ⟨rfl, rfl, hA, hB, hbs, hK, hR⟩ | ⟨rfl, rfl, k1, g, cap, x1, y1, H, sv1, kv1, hn1, hA, hB, hO1, hX1, hx1, hxy1, hyH, hgl, hK, hR⟩
        · have HAw := hid hA
          have HBw := hid hB
          have HKw := hid hK
          have HRw := hid hR
          have b0 := cell_of_block hB 0
          have b1 := cell_of_block hB 1
          have b2 := cell_of_block hB 2
          have b3 := cell_of_block hB 3
          have b4 := cell_of_block hB 4
          simp at b0 b1 b2 b3 b4
          have h0 := frozen_of_block hB 0
          have h1 := frozen_of_block hB 1
          have h2 := frozen_of_block hB 2
          have h3 := frozen_of_block hB 3
          have h4 := frozen_of_block hB 4
          have hbl := lt_of_block hB
          have hrw := hR.lt
          have HC := hid (fun W (hW : Kept [] wr W) => hG rb (N + 2) W (HRw.out.kept hW) (by have := HN.out; omega))
          clear hA hB hK hR
          go_wp2
          go_region_law (first
            | (go_simp
               go_at_call 26
               with_reducible refine (HC.out _ ?_).mono ?_
               · repeat' with_reducible first | exact Kept.refl _ _ | refine Kept.drew ?_ | refine Kept.alloc ?_ _
               rintro e w3 ⟨kk, sv, kv, rfl, hK2, hXX, hnd, hR2⟩
               obtain ⟨s1, s2, s3, t1, t2, t3, rfl, rfl⟩ := hXX.form
               have hKK : Kept [rb] wr w3 := Kept.trans (by repeat' with_reducible first | exact Kept.refl _ _ | refine Kept.drew ?_ | refine Kept.alloc ?_ _) hK2
               have hXs : KeyX wr.heap.size w3.heap.size w3 kk (.slice s1 s2 s3) (.slice t1 t2 t3) := hXX
               have hA3 := hKK.same HAw.out (by simp; omega)
               have hB3 := hKK.same HBw.out (by simp; omega)
               have hsz3 := hKK.size
               have b4 := cell_of_block hB3 4
               have h4 := frozen_of_block hB3 4
               simp at b4
               have hbl3 := lt_of_block hB3)
            | (skip
               refine step_append_where 24 26 _ 5 80 Tryz.underlying24 inf_key rfl (by decide) (by decide) rfl (.tmp 28) (.tmp 33) rfl (w3.heap.size + 1) (.slice none 0 0) 0 [] rfl (own_empty _ _ _ _) w3.heap.size 1 1 (kcs kk (.slice s1 s2 s3) (.slice t1 t2 t3)) rfl #[.int .i64 kk.kind, .int .i64 kk.flag, .string (bs kk.text), .slice s1 s2 s3, .slice t1 t2 t3] (0, 0) (by first | exact new_block _ _ | exact new_block w3 _) rfl rfl (by simp [kcs, Value.oneCell']) (by unfold bigN; omega) (by omega) (by first | (simp; done) | (simp; omega)) ?_
               intro g3 cap3 w4 hown4 hgrow4 hwh hgl4
               have hgw := hgrow4
               have hb4 := (hgrow4.block bb (by simp; omega) (fun e => by have e : some bb = (none : Option Nat) := e; cases e)).trans (show _ = some (.cells #[.int .i64 5, .int .i64 0, .string ⟨#[]⟩, .slice none 0 0, .slice none 0 0] 26 (0, 0)) from by first | exact alloc_block hB3 _ | exact alloc_block (w := w3) hB3 _)
               have hK4 : Kept [bb, bb] w3 w4 := Kept.grown (w := w3.alloc (Obj.cells #[.int .i64 kk.kind, .int .i64 kk.flag, .string (bs kk.text), .slice s1 s2 s3, .slice t1 t2 t3] 26)) ((Kept.refl _ w3).alloc _) hgrow4 (by intro k e _; have e : (none : Option Nat) = some k := e; cases e)
               have b4 := cell_of_block hb4 4
               have h4 := frozen_of_block hb4 4
               simp at b4
               have hbl4 := lt_of_block hb4))
          all_goals
            go_wp2
            go_roundg 0
            case measure => omega
            case rel =>
              have KF : Kept [bb, bb] w3 (w4.setCell ⟨bb, 4, none⟩ (.slice (some ⟨g3, 0, none⟩) 1 cap3)) := hK4.setCell _ _ (by simp)
              have hA4 := KF.same hA3 (by simp; omega)
              have hB5 : (w4.setCell ⟨bb, 4, none⟩ (.slice (some ⟨g3, 0, none⟩) 1 cap3)).heap[bb]? = some (.cells #[.int .i64 5, .int .i64 0, .string ⟨#[]⟩, .slice none 0 0, .slice (some ⟨g3, 0, none⟩) 1 cap3] 26 (0, 0)) := by have := set_of_block (i := 4) hb4 (.slice (some ⟨g3, 0, none⟩) 1 cap3); simpa using this
              have hO5 := own_kept hown4 ((Kept.refl [bb] w4).setCell ⟨bb, 4, none⟩ (.slice (some ⟨g3, 0, none⟩) 1 cap3) (by simp)) (by simp; omega)
              have hX5 := KeyX.kept KF (by simp; omega) kk _ _ hXs
              have hR5 := hR2.keptB KF (by simp; omega)
              have hK5 := (HKw.out.trans hKK).trans' KF (fun _ e _ => e) (fun x e hx => by simp at e; omega)
              exact .inr ⟨rfl, by go_num, kk, g3, cap3, wr.heap.size, w3.heap.size, w3.heap.size + 1, .slice s1 s2 s3, .slice t1 t2 t3, hnd, hA4, hB5, by simpa using hO5, hX5, hbs, hsz3, by omega, by simpa [World.setCell] using hgl4, hK5, hR5⟩
        · have HK := hid hK
          have HR := hid hR
          have z0 := cell_of_block hA 0
          have z1 := cell_of_block hA 1
          have z2 := cell_of_block hA 2
          have z3 := cell_of_block hA 3
          have z4 := cell_of_block hA 4
          simp at z0 z1 z2 z3 z4
          have f0 := frozen_of_block hA 0
          have f1 := frozen_of_block hA 1
          have f2 := frozen_of_block hA 2
          have f3 := frozen_of_block hA 3
          have f4 := frozen_of_block hA 4
          have b0 := cell_of_block hB 0
          have b1 := cell_of_block hB 1
          have b2 := cell_of_block hB 2
          have b3 := cell_of_block hB 3
          have b4 := cell_of_block hB 4
          simp at b0 b1 b2 b3 b4
          have hzl := lt_of_block hA
          have hbl := lt_of_block hB
          have HX := hid (fun W' (hK : Kept [w.heap.size] wr W') => keyX_mk1 (lo := w.heap.size) 5 hO1 hX1 (by omega) hxy1 hyH hgl hK (by omega))
          clear hA hB hO1 hX1 hK hR
          go_wp2
          refine bodyPost_ret (v := .agg #[.int .i64 5, .int .i64 0, .string ⟨#[]⟩, .slice none 0 0, .slice (some ⟨g, 0, none⟩) 1 cap]) (by simp [results, Tryz.results26, go_sem, z0, z1, z2, z3, z4]) rfl ?_
          refine ⟨.mk 5 0 [] [] [k1], _, _, rfl, ?_, HX.out _ ?_, by unfold nodesK nodesL nodesL; omega, (HR.out.keptB (cs := [w.heap.size]) ?_ (by simp; omega)).mono (by omega)⟩
          repeat' with_reducible first | exact HK.out | refine Kept.drew ?_ | refine Kept.drewN ?_ _ | refine Kept.alloc ?_ _ | refine Kept.setCell ?_ _ _ (by first | (simp; done) | (simp; omega))
          all_goals repeat' with_reducible first | exact Kept.refl _ _ | refine Kept.setCell ?_ _ _ (by simp)
    · have HA := hid (alloc_block HZ2.out (Obj.cells #[.int .i64 6, .int .i64 0, .string ⟨#[]⟩, .slice none 0 0, .slice none 0 0] 26))
      have HB := hid (new_block w2 (Obj.cells #[.int .i64 6, .int .i64 0, .string ⟨#[]⟩, .slice none 0 0, .slice none 0 0] 26))
      have HKB := hid (HK2.out.alloc (Obj.cells #[.int .i64 6, .int .i64 0, .string ⟨#[]⟩, .slice none 0 0, .slice none 0 0] 26))
      have HRB := hid (HR2.out.kept ((Kept.refl [] w2).alloc (Obj.cells #[.int .i64 6, .int .i64 0, .string ⟨#[]⟩, .slice none 0 0, .slice none 0 0] 26)))
      have hbb : w.heap.size < w2.heap.size := lt_of_block HZ2.out
      obtain ⟨bb, hbq⟩ : ∃ bb, w2.heap.size = bb := ⟨_, rfl⟩
      rw [hbq] at HB hbb
      go_wp2
      go_loopg [6] 2 (fun m i W => (m = 2 ∧ i = .int .i64 0 ∧ W.heap[w.heap.size]? = some (.cells #[.int .i64 0, .int .i64 0, .string ⟨#[]⟩, .slice none 0 0, .slice none 0 0] 26 (0, 0)) ∧ W.heap[bb]? = some (.cells #[.int .i64 6, .int .i64 0, .string ⟨#[]⟩, .slice none 0 0, .slice none 0 0] 26 (0, 0)) ∧ bb + 1 ≤ W.heap.size ∧ Kept [rb] w W ∧ RdAt W rb (N + 2)) ∨
        (m = 1 ∧ i = .int .i64 1 ∧ ∃ (k1 : Ky) (g cap x1 y1 H : Nat) (sv1 kv1 : Value), nodesK k1 ≤ manyD d ∧ W.heap[w.heap.size]? = some (.cells #[.int .i64 0, .int .i64 0, .string ⟨#[]⟩, .slice none 0 0, .slice none 0 0] 26 (0, 0)) ∧ W.heap[bb]? = some (.cells #[.int .i64 6, .int .i64 0, .string ⟨#[]⟩, .slice none 0 0, .slice (some ⟨g, 0, none⟩) 1 cap] 26 (0, 0)) ∧
        W.ownsRow H 26 5 (.slice (some ⟨g, 0, none⟩) 1 cap) 1 (kcs k1 sv1 kv1) ∧ KeyX x1 y1 W k1 sv1 kv1 ∧ bb + 1 ≤ x1 ∧ x1 ≤ y1 ∧ y1 ≤ H ∧ g < W.heap.size ∧ Kept [rb] w W ∧ RdAt W rb (N + 2 + costD d)) ∨
        (m = 0 ∧ i = .int .i64 2 ∧ ∃ (k1 k2 : Ky) (g cap x1 y1 x2 y2 H : Nat) (sv1 kv1 sv2 kv2 : Value), nodesK k1 ≤ manyD d ∧ nodesK k2 ≤ manyD d ∧ W.heap[w.heap.size]? = some (.cells #[.int .i64 0, .int .i64 0, .string ⟨#[]⟩, .slice none 0 0, .slice none 0 0] 26 (0, 0)) ∧ W.heap[bb]? = some (.cells #[.int .i64 6, .int .i64 0, .string ⟨#[]⟩, .slice none 0 0, .slice (some ⟨g, 0, none⟩) 2 cap] 26 (0, 0)) ∧
        W.ownsRow H 26 5 (.slice (some ⟨g, 0, none⟩) 2 cap) 2 (kcs k1 sv1 kv1 ++ kcs k2 sv2 kv2) ∧ KeyX x1 y1 W k1 sv1 kv1 ∧ KeyX x2 y2 W k2 sv2 kv2 ∧ bb + 1 ≤ x1 ∧ x1 ≤ y1 ∧ y1 ≤ H ∧ y1 ≤ x2 ∧ x2 ≤ y2 ∧ y2 ≤ W.heap.size ∧ (g < x2 ∨ y2 ≤ g) ∧ g < W.heap.size ∧ Kept [rb] w W ∧ RdAt W rb (N + 2 + costD d + costD d)))
      case atStart => exact .inl ⟨rfl, rfl, by first | exact HA.out | (rw [← hbq]; exact HA.out), by rw [← hbq] at HB ⊢; exact HB.out, by rw [← hbq]; simp, HKB.out, HRB.out⟩
      case round =>
        rcases hrel with ⟨rfl, rfl, hA, hB, hbs, hK, hR⟩ | ⟨rfl, rfl, k1, g, cap, x1, y1, H, sv1, kv1, hn1, hA, hB, hO1, hX1, hx1, hxy1, hyH, hgl, hK, hR⟩ | ⟨rfl, rfl, k1, k2, g, cap, x1, y1, x2, y2, H, sv1, kv1, sv2, kv2, hn1, hn2, hA, hB, hO2, hX1, hX2, hx1, hxy1, hyH, hyx, hxy2, hy2, hg2, hgl, hK, hR⟩
        · have HAw := hid hA
          have HBw := hid hB
          have HKw := hid hK
          have HRw := hid hR
          have b0 := cell_of_block hB 0
          have b1 := cell_of_block hB 1
          have b2 := cell_of_block hB 2
          have b3 := cell_of_block hB 3
          have b4 := cell_of_block hB 4
          simp at b0 b1 b2 b3 b4
          have h0 := frozen_of_block hB 0
          have h1 := frozen_of_block hB 1
          have h2 := frozen_of_block hB 2
          have h3 := frozen_of_block hB 3
          have h4 := frozen_of_block hB 4
          have hbl := lt_of_block hB
          have hrw := hR.lt
          have HC := hid (fun W (hW : Kept [] wr W) => hG rb (N + 2) W (HRw.out.kept hW) (by have := HN.out; omega))
          clear hA hB hK hR
          go_wp2
          go_region_law (first
            | (go_simp
               go_at_call 26
               with_reducible refine (HC.out _ ?_).mono ?_
               · repeat' with_reducible first | exact Kept.refl _ _ | refine Kept.drew ?_ | refine Kept.alloc ?_ _
               rintro e w3 ⟨kk, sv, kv, rfl, hK2, hXX, hnd, hR2⟩
               obtain ⟨s1, s2, s3, t1, t2, t3, rfl, rfl⟩ := hXX.form
               have hKK : Kept [rb] wr w3 := Kept.trans (by repeat' with_reducible first | exact Kept.refl _ _ | refine Kept.drew ?_ | refine Kept.alloc ?_ _) hK2
               have hXs : KeyX wr.heap.size w3.heap.size w3 kk (.slice s1 s2 s3) (.slice t1 t2 t3) := hXX
               have hA3 := hKK.same HAw.out (by simp; omega)
               have hB3 := hKK.same HBw.out (by simp; omega)
               have hsz3 := hKK.size
               have b4 := cell_of_block hB3 4
               have h4 := frozen_of_block hB3 4
               simp at b4
               have hbl3 := lt_of_block hB3)
            | (skip
               refine step_append_where 24 26 _ 5 80 Tryz.underlying24 inf_key rfl (by decide) (by decide) rfl (.tmp 28) (.tmp 33) rfl (w3.heap.size + 1) (.slice none 0 0) 0 [] rfl (own_empty _ _ _ _) w3.heap.size 1 1 (kcs kk (.slice s1 s2 s3) (.slice t1 t2 t3)) rfl #[.int .i64 kk.kind, .int .i64 kk.flag, .string (bs kk.text), .slice s1 s2 s3, .slice t1 t2 t3] (0, 0) (by first | exact new_block _ _ | exact new_block w3 _) rfl rfl (by simp [kcs, Value.oneCell']) (by unfold bigN; omega) (by omega) (by first | (simp; done) | (simp; omega)) ?_
               intro g3 cap3 w4 hown4 hgrow4 hwh hgl4
               have hgw := hgrow4
               have hb4 := (hgrow4.block bb (by simp; omega) (fun e => by have e : some bb = (none : Option Nat) := e; cases e)).trans (show _ = some (.cells #[.int .i64 6, .int .i64 0, .string ⟨#[]⟩, .slice none 0 0, .slice none 0 0] 26 (0, 0)) from by first | exact alloc_block hB3 _ | exact alloc_block (w := w3) hB3 _)
               have hK4 : Kept [bb, bb] w3 w4 := Kept.grown (w := w3.alloc (Obj.cells #[.int .i64 kk.kind, .int .i64 kk.flag, .string (bs kk.text), .slice s1 s2 s3, .slice t1 t2 t3] 26)) ((Kept.refl _ w3).alloc _) hgrow4 (by intro k e _; have e : (none : Option Nat) = some k := e; cases e)
               have b4 := cell_of_block hb4 4
               have h4 := frozen_of_block hb4 4
               simp at b4
               have hbl4 := lt_of_block hb4))
          all_goals
            go_wp2
            go_roundg 1
            case measure => omega
            case rel =>
              have KF : Kept [bb, bb] w3 (w4.setCell ⟨bb, 4, none⟩ (.slice (some ⟨g3, 0, none⟩) 1 cap3)) := hK4.setCell _ _ (by simp)
              have hA4 := KF.same hA3 (by simp; omega)
              have hB5 : (w4.setCell ⟨bb, 4, none⟩ (.slice (some ⟨g3, 0, none⟩) 1 cap3)).heap[bb]? = some (.cells #[.int .i64 6, .int .i64 0, .string ⟨#[]⟩, .slice none 0 0, .slice (some ⟨g3, 0, none⟩) 1 cap3] 26 (0, 0)) := by have := set_of_block (i := 4) hb4 (.slice (some ⟨g3, 0, none⟩) 1 cap3); simpa using this
              have hO5 := own_kept hown4 ((Kept.refl [bb] w4).setCell ⟨bb, 4, none⟩ (.slice (some ⟨g3, 0, none⟩) 1 cap3) (by simp)) (by simp; omega)
              have hX5 := KeyX.kept KF (by simp; omega) kk _ _ hXs
              have hR5 := hR2.keptB KF (by simp; omega)
              have hK5 := (HKw.out.trans hKK).trans' KF (fun _ e _ => e) (fun x e hx => by simp at e; omega)
              exact .inr (.inl ⟨rfl, by go_num, kk, g3, cap3, wr.heap.size, w3.heap.size, w3.heap.size + 1, .slice s1 s2 s3, .slice t1 t2 t3, hnd, hA4, hB5, by simpa using hO5, hX5, hbs, hsz3, by omega, by simpa [World.setCell] using hgl4, hK5, hR5⟩)
        · have HAw := hid hA
          have HBw := hid hB
          have HKw := hid hK
          have HRw := hid hR
          have b0 := cell_of_block hB 0
          have b1 := cell_of_block hB 1
          have b2 := cell_of_block hB 2
          have b3 := cell_of_block hB 3
          have b4 := cell_of_block hB 4
          simp at b0 b1 b2 b3 b4
          have h0 := frozen_of_block hB 0
          have h1 := frozen_of_block hB 1
          have h2 := frozen_of_block hB 2
          have h3 := frozen_of_block hB 3
          have h4 := frozen_of_block hB 4
          have hbl := lt_of_block hB
          have hrw := hR.lt
          have HOx := hid hO1
          have HX1 := hid hX1
          have hHg : H ≤ g := (hO1.lt g rfl).1
          clear hO1 hX1
          have HC := hid (fun W (hW : Kept [] wr W) => hG rb (N + 2 + costD d) W (HRw.out.kept hW) (by have := HN.out; omega))
          clear hA hB hK hR
          go_wp2
          go_region_law (first
            | (go_simp
               go_at_call 26
               with_reducible refine (HC.out _ ?_).mono ?_
               · repeat' with_reducible first | exact Kept.refl _ _ | refine Kept.drew ?_ | refine Kept.alloc ?_ _
               rintro e w3 ⟨kk, sv, kv, rfl, hK2, hXX, hnd, hR2⟩
               obtain ⟨s1, s2, s3, t1, t2, t3, rfl, rfl⟩ := hXX.form
               have hKK : Kept [rb] wr w3 := Kept.trans (by repeat' with_reducible first | exact Kept.refl _ _ | refine Kept.drew ?_ | refine Kept.alloc ?_ _) hK2
               have hXs : KeyX wr.heap.size w3.heap.size w3 kk (.slice s1 s2 s3) (.slice t1 t2 t3) := hXX
               have hA3 := hKK.same HAw.out (by simp; omega)
               have hB3 := hKK.same HBw.out (by simp; omega)
               have hown3 := own_kept HOx.out hKK (by simp; omega)
               have hsz3 := hKK.size
               have b4 := cell_of_block hB3 4
               have h4 := frozen_of_block hB3 4
               simp at b4
               have hbl3 := lt_of_block hB3)
            | (skip
               refine step_append_where 24 26 _ 5 80 Tryz.underlying24 inf_key rfl (by decide) (by decide) rfl (.tmp 28) (.tmp 33) rfl H (.slice (some ⟨g, 0, none⟩) 1 cap) 1 (kcs k1 sv1 kv1) rfl (own_by_heap (hown3.alloc (Obj.cells #[.int .i64 kk.kind, .int .i64 kk.flag, .string (bs kk.text), .slice s1 s2 s3, .slice t1 t2 t3] 26)) rfl) w3.heap.size 1 1 (kcs kk (.slice s1 s2 s3) (.slice t1 t2 t3)) rfl #[.int .i64 kk.kind, .int .i64 kk.flag, .string (bs kk.text), .slice s1 s2 s3, .slice t1 t2 t3] (0, 0) (by first | exact new_block _ _ | exact new_block w3 _) rfl rfl (by simp [kcs, Value.oneCell']) (by unfold bigN; omega) (by omega) (by first | (simp; done) | (simp; omega)) ?_
               intro g3 cap3 w4 hown4 hgrow4 hwh hgl4
               have hgw := hgrow4
               have hb4 := (hgrow4.block bb (by simp; omega) (fun e => by have e : some bb = some g := e; injection e with e; omega)).trans (show _ = some (.cells #[.int .i64 6, .int .i64 0, .string ⟨#[]⟩, .slice none 0 0, .slice (some ⟨g, 0, none⟩) 1 cap] 26 (0, 0)) from by first | exact alloc_block hB3 _ | exact alloc_block (w := w3) hB3 _)
               have hK4 : Kept [bb, g] w3 w4 := Kept.grown (w := w3.alloc (Obj.cells #[.int .i64 kk.kind, .int .i64 kk.flag, .string (bs kk.text), .slice s1 s2 s3, .slice t1 t2 t3] 26)) ((Kept.refl _ w3).alloc _) hgrow4 (by intro k e _; have e : some g = some k := e; injection e with e; simp [← e])
               have b4 := cell_of_block hb4 4
               have h4 := frozen_of_block hb4 4
               simp at b4
               have hbl4 := lt_of_block hb4))
          all_goals
            go_wp2
            go_roundg 0
            case measure => omega
            case rel =>
              have KF : Kept [bb, g] w3 (w4.setCell ⟨bb, 4, none⟩ (.slice (some ⟨g3, 0, none⟩) 2 cap3)) := hK4.setCell _ _ (by simp)
              have hA4 := KF.same hA3 (by simp; omega)
              have hB5 : (w4.setCell ⟨bb, 4, none⟩ (.slice (some ⟨g3, 0, none⟩) 2 cap3)).heap[bb]? = some (.cells #[.int .i64 6, .int .i64 0, .string ⟨#[]⟩, .slice none 0 0, .slice (some ⟨g3, 0, none⟩) 2 cap3] 26 (0, 0)) := by have := set_of_block (i := 4) hb4 (.slice (some ⟨g3, 0, none⟩) 2 cap3); simpa using this
              have hO5 := own_kept hown4 ((Kept.refl [bb] w4).setCell ⟨bb, 4, none⟩ (.slice (some ⟨g3, 0, none⟩) 2 cap3) (by simp)) (by simp; omega)
              have hX5 := KeyX.kept KF (by simp; omega) kk _ _ hXs
              have hR5 := hR2.keptB KF (by simp; omega)
              have hK5 := (HKw.out.trans hKK).trans' KF (fun _ e _ => e) (fun x e hx => by simp at e; omega)
              have hX51 := KeyX.kept KF (by simp; omega) k1 _ _ (KeyX.kept hKK (by simp; omega) k1 _ _ HX1.out)
              have hgw5 : g3 < wr.heap.size ∨ w3.heap.size ≤ g3 := by
                rcases hwh with e | e
                · have e : some g = some g3 := e
                  injection e with e; omega
                · right; rw [e]; simp
              exact .inr (.inr ⟨rfl, by go_num, k1, kk, g3, cap3, x1, y1, wr.heap.size, w3.heap.size, H, sv1, kv1, .slice s1 s2 s3, .slice t1 t2 t3, hn1, hnd, hA4, hB5, by simpa using hO5, hX51, hX5, hx1, hxy1, hyH, by omega, hsz3, KF.size, hgw5, by simpa [World.setCell] using hgl4, hK5, hR5⟩)
        · have HK := hid hK
          have HR := hid hR
          have z0 := cell_of_block hA 0
          have z1 := cell_of_block hA 1
          have z2 := cell_of_block hA 2
          have z3 := cell_of_block hA 3
          have z4 := cell_of_block hA 4
          simp at z0 z1 z2 z3 z4
          have f0 := frozen_of_block hA 0
          have f1 := frozen_of_block hA 1
          have f2 := frozen_of_block hA 2
          have f3 := frozen_of_block hA 3
          have f4 := frozen_of_block hA 4
          have b0 := cell_of_block hB 0
          have b1 := cell_of_block hB 1
          have b2 := cell_of_block hB 2
          have b3 := cell_of_block hB 3
          have b4 := cell_of_block hB 4
          simp at b0 b1 b2 b3 b4
          have hzl := lt_of_block hA
          have hbl := lt_of_block hB
          have HX := hid (fun W' (hK : Kept [w.heap.size] wr W') => keyX_mk2 (lo := w.heap.size) 6 hO2 hX1 hX2 (by omega) hxy1 hyH hyx hxy2 hy2 hg2 hgl hK (by omega))
          clear hA hB hO2 hX1 hX2 hK hR hg2
          go_wp2
          refine bodyPost_ret (v := .agg #[.int .i64 6, .int .i64 0, .string ⟨#[]⟩, .slice none 0 0, .slice (some ⟨g, 0, none⟩) 2 cap]) (by simp [results, Tryz.results26, go_sem, z0, z1, z2, z3, z4]) rfl ?_
          refine ⟨.mk 6 0 [] [] [k1, k2], _, _, rfl, ?_, HX.out _ ?_, by unfold nodesK nodesL nodesL nodesL; omega, (HR.out.keptB (cs := [w.heap.size]) ?_ (by simp; omega)).mono (by omega)⟩
          repeat' with_reducible first | exact HK.out | refine Kept.drew ?_ | refine Kept.drewN ?_ _ | refine Kept.alloc ?_ _ | refine Kept.setCell ?_ _ _ (by first | (simp; done) | (simp; omega))
          all_goals repeat' with_reducible first | exact Kept.refl _ _ | refine Kept.setCell ?_ _ _ (by simp)
    · have HA := hid (alloc_block HZ2.out (Obj.cells #[.int .i64 7, .int .i64 0, .string ⟨#[]⟩, .slice none 0 0, .slice none 0 0] 26))
      have HB := hid (new_block w2 (Obj.cells #[.int .i64 7, .int .i64 0, .string ⟨#[]⟩, .slice none 0 0, .slice none 0 0] 26))
      have HKB := hid (HK2.out.alloc (Obj.cells #[.int .i64 7, .int .i64 0, .string ⟨#[]⟩, .slice none 0 0, .slice none 0 0] 26))
      have HRB := hid (HR2.out.kept ((Kept.refl [] w2).alloc (Obj.cells #[.int .i64 7, .int .i64 0, .string ⟨#[]⟩, .slice none 0 0, .slice none 0 0] 26)))
      have hbb : w.heap.size < w2.heap.size := lt_of_block HZ2.out
      obtain ⟨bb, hbq⟩ : ∃ bb, w2.heap.size = bb := ⟨_, rfl⟩
      rw [hbq] at HB hbb
      go_wp2
      go_loopg [6] 2 (fun m i W => (m = 2 ∧ i = .int .i64 0 ∧ W.heap[w.heap.size]? = some (.cells #[.int .i64 0, .int .i64 0, .string ⟨#[]⟩, .slice none 0 0, .slice none 0 0] 26 (0, 0)) ∧ W.heap[bb]? = some (.cells #[.int .i64 7, .int .i64 0, .string ⟨#[]⟩, .slice none 0 0, .slice none 0 0] 26 (0, 0)) ∧ bb + 1 ≤ W.heap.size ∧ Kept [rb] w W ∧ RdAt W rb (N + 2)) ∨
        (m = 1 ∧ i = .int .i64 1 ∧ ∃ (k1 : Ky) (g cap x1 y1 H : Nat) (sv1 kv1 : Value), nodesK k1 ≤ manyD d ∧ W.heap[w.heap.size]? = some (.cells #[.int .i64 0, .int .i64 0, .string ⟨#[]⟩, .slice none 0 0, .slice none 0 0] 26 (0, 0)) ∧ W.heap[bb]? = some (.cells #[.int .i64 7, .int .i64 0, .string ⟨#[]⟩, .slice none 0 0, .slice (some ⟨g, 0, none⟩) 1 cap] 26 (0, 0)) ∧
        W.ownsRow H 26 5 (.slice (some ⟨g, 0, none⟩) 1 cap) 1 (kcs k1 sv1 kv1) ∧ KeyX x1 y1 W k1 sv1 kv1 ∧ bb + 1 ≤ x1 ∧ x1 ≤ y1 ∧ y1 ≤ H ∧ g < W.heap.size ∧ Kept [rb] w W ∧ RdAt W rb (N + 2 + costD d)) ∨
        (m = 0 ∧ i = .int .i64 2 ∧ ∃ (k1 k2 : Ky) (g cap x1 y1 x2 y2 H : Nat) (sv1 kv1 sv2 kv2 : Value), nodesK k1 ≤ manyD d ∧ nodesK k2 ≤ manyD d ∧ W.heap[w.heap.size]? = some (.cells #[.int .i64 0, .int .i64 0, .string ⟨#[]⟩, .slice none 0 0, .slice none 0 0] 26 (0, 0)) ∧ W.heap[bb]? = some (.cells #[.int .i64 7, .int .i64 0, .string ⟨#[]⟩, .slice none 0 0, .slice (some ⟨g, 0, none⟩) 2 cap] 26 (0, 0)) ∧
        W.ownsRow H 26 5 (.slice (some ⟨g, 0, none⟩) 2 cap) 2 (kcs k1 sv1 kv1 ++ kcs k2 sv2 kv2) ∧ KeyX x1 y1 W k1 sv1 kv1 ∧ KeyX x2 y2 W k2 sv2 kv2 ∧ bb + 1 ≤ x1 ∧ x1 ≤ y1 ∧ y1 ≤ H ∧ y1 ≤ x2 ∧ x2 ≤ y2 ∧ y2 ≤ W.heap.size ∧ (g < x2 ∨ y2 ≤ g) ∧ g < W.heap.size ∧ Kept [rb] w W ∧ RdAt W rb (N + 2 + costD d + costD d)))
      case atStart => exact .inl ⟨rfl, rfl, by first | exact HA.out | (rw [← hbq]; exact HA.out), by rw [← hbq] at HB ⊢; exact HB.out, by rw [← hbq]; simp, HKB.out, HRB.out⟩
      case round =>
        rcases hrel with ⟨rfl, rfl, hA, hB, hbs, hK, hR⟩ | ⟨rfl, rfl, k1, g, cap, x1, y1, H, sv1, kv1, hn1, hA, hB, hO1, hX1, hx1, hxy1, hyH, hgl, hK, hR⟩ | ⟨rfl, rfl, k1, k2, g, cap, x1, y1, x2, y2, H, sv1, kv1, sv2, kv2, hn1, hn2, hA, hB, hO2, hX1, hX2, hx1, hxy1, hyH, hyx, hxy2, hy2, hg2, hgl, hK, hR⟩
        · have HAw := hid hA
          have HBw := hid hB
          have HKw := hid hK
          have HRw := hid hR
          have b0 := cell_of_block hB 0
          have b1 := cell_of_block hB 1
          have b2 := cell_of_block hB 2
          have b3 := cell_of_block hB 3
          have b4 := cell_of_block hB 4
          simp at b0 b1 b2 b3 b4
          have h0 := frozen_of_block hB 0
          have h1 := frozen_of_block hB 1
          have h2 := frozen_of_block hB 2
          have h3 := frozen_of_block hB 3
          have h4 := frozen_of_block hB 4
          have hbl := lt_of_block hB
          have hrw := hR.lt
          have HC := hid (fun W (hW : Kept [] wr W) => hG rb (N + 2) W (HRw.out.kept hW) (by have := HN.out; omega))
          clear hA hB hK hR
          go_wp2
          go_region_law (first
            | (go_simp
               go_at_call 26
               with_reducible refine (HC.out _ ?_).mono ?_
               · repeat' with_reducible first | exact Kept.refl _ _ | refine Kept.drew ?_ | refine Kept.alloc ?_ _
               rintro e w3 ⟨kk, sv, kv, rfl, hK2, hXX, hnd, hR2⟩
               obtain ⟨s1, s2, s3, t1, t2, t3, rfl, rfl⟩ := hXX.form
               have hKK : Kept [rb] wr w3 := Kept.trans (by repeat' with_reducible first | exact Kept.refl _ _ | refine Kept.drew ?_ | refine Kept.alloc ?_ _) hK2
               have hXs : KeyX wr.heap.size w3.heap.size w3 kk (.slice s1 s2 s3) (.slice t1 t2 t3) := hXX
               have hA3 := hKK.same HAw.out (by simp; omega)
               have hB3 := hKK.same HBw.out (by simp; omega)
               have hsz3 := hKK.size
               have b4 := cell_of_block hB3 4
               have h4 := frozen_of_block hB3 4
               simp at b4
               have hbl3 := lt_of_block hB3)
            | (skip
               refine step_append_where 24 26 _ 5 80 Tryz.underlying24 inf_key rfl (by decide) (by decide) rfl (.tmp 28) (.tmp 33) rfl (w3.heap.size + 1) (.slice none 0 0) 0 [] rfl (own_empty _ _ _ _) w3.heap.size 1 1 (kcs kk (.slice s1 s2 s3) (.slice t1 t2 t3)) rfl #[.int .i64 kk.kind, .int .i64 kk.flag, .string (bs kk.text), .slice s1 s2 s3, .slice t1 t2 t3] (0, 0) (by first | exact new_block _ _ | exact new_block w3 _) rfl rfl (by simp [kcs, Value.oneCell']) (by unfold bigN; omega) (by omega) (by first | (simp; done) | (simp; omega)) ?_
               intro g3 cap3 w4 hown4 hgrow4 hwh hgl4
               have hgw := hgrow4
               have hb4 := (hgrow4.block bb (by simp; omega) (fun e => by have e : some bb = (none : Option Nat) := e; cases e)).trans (show _ = some (.cells #[.int .i64 7, .int .i64 0, .string ⟨#[]⟩, .slice none 0 0, .slice none 0 0] 26 (0, 0)) from by first | exact alloc_block hB3 _ | exact alloc_block (w := w3) hB3 _)
               have hK4 : Kept [bb, bb] w3 w4 := Kept.grown (w := w3.alloc (Obj.cells #[.int .i64 kk.kind, .int .i64 kk.flag, .string (bs kk.text), .slice s1 s2 s3, .slice t1 t2 t3] 26)) ((Kept.refl _ w3).alloc _) hgrow4 (by intro k e _; have e : (none : Option Nat) = some k := e; cases e)
               have b4 := cell_of_block hb4 4
               have h4 := frozen_of_block hb4 4
               simp at b4
               have hbl4 := lt_of_block hb4))
          all_goals
            go_wp2
            go_roundg 1
            case measure => omega
            case rel =>
              have KF : Kept [bb, bb] w3 (w4.setCell ⟨bb, 4, none⟩ (.slice (some ⟨g3, 0, none⟩) 1 cap3)) := hK4.setCell _ _ (by simp)
              have hA4 := KF.same hA3 (by simp; omega)
              have hB5 : (w4.setCell ⟨bb, 4, none⟩ (.slice (some ⟨g3, 0, none⟩) 1 cap3)).heap[bb]? = some (.cells #[.int .i64 7, .int .i64 0, .string ⟨#[]⟩, .slice none 0 0, .slice (some ⟨g3, 0, none⟩) 1 cap3] 26 (0, 0)) := by have := set_of_block (i := 4) hb4 (.slice (some ⟨g3, 0, none⟩) 1 cap3); simpa using this
              have hO5 := own_kept hown4 ((Kept.refl [bb] w4).setCell ⟨bb, 4, none⟩ (.slice (some ⟨g3, 0, none⟩) 1 cap3) (by simp)) (by simp; omega)
              have hX5 := KeyX.kept KF (by simp; omega) kk _ _ hXs
              have hR5 := hR2.keptB KF (by simp; omega)
              have hK5 := (HKw.out.trans hKK).trans' KF (fun _ e _ => e) (fun x e hx => by simp at e; omega)
              exact .inr (.inl ⟨rfl, by go_num, kk, g3, cap3, wr.heap.size, w3.heap.size, w3.heap.size + 1, .slice s1 s2 s3, .slice t1 t2 t3, hnd, hA4, hB5, by simpa using hO5, hX5, hbs, hsz3, by omega, by simpa [World.setCell] using hgl4, hK5, hR5⟩)
        · have HAw := hid hA
          have HBw := hid hB
          have HKw := hid hK
          have HRw := hid hR
          have b0 := cell_of_block hB 0
          have b1 := cell_of_block hB 1
          have b2 := cell_of_block hB 2
          have b3 := cell_of_block hB 3
          have b4 := cell_of_block hB 4
          simp at b0 b1 b2 b3 b4
          have h0 := frozen_of_block hB 0
          have h1 := frozen_of_block hB 1
          have h2 := frozen_of_block hB 2
          have h3 := frozen_of_block hB 3
          have h4 := frozen_of_block hB 4
          have hbl := lt_of_block hB
          have hrw := hR.lt
          have HOx := hid hO1
          have HX1 := hid hX1
          have hHg : H ≤ g := (hO1.lt g rfl).1
          clear hO1 hX1
          have HC := hid (fun W (hW : Kept [] wr W) => hG rb (N + 2 + costD d) W (HRw.out.kept hW) (by have := HN.out; omega))
          clear hA hB hK hR
          go_wp2
          go_region_law (first
            | (go_simp
               go_at_call 26
               with_reducible refine (HC.out _ ?_).mono ?_
               · repeat' with_reducible first | exact Kept.refl _ _ | refine Kept.drew ?_ | refine Kept.alloc ?_ _
               rintro e w3 ⟨kk, sv, kv, rfl, hK2, hXX, hnd, hR2⟩
               obtain ⟨s1, s2, s3, t1, t2, t3, rfl, rfl⟩ := hXX.form
               have hKK : Kept [rb] wr w3 := Kept.trans (by repeat' with_reducible first | exact Kept.refl _ _ | refine Kept.drew ?_ | refine Kept.alloc ?_ _) hK2
               have hXs : KeyX wr.heap.size w3.heap.size w3 kk (.slice s1 s2 s3) (.slice t1 t2 t3) := hXX
               have hA3 := hKK.same HAw.out (by simp; omega)
               have hB3 := hKK.same HBw.out (by simp; omega)
               have hown3 := own_kept HOx.out hKK (by simp; omega)
               have hsz3 := hKK.size
               have b4 := cell_of_block hB3 4
               have h4 := frozen_of_block hB3 4
               simp at b4
               have hbl3 := lt_of_block hB3)
            | (skip
               refine step_append_where 24 26 _ 5 80 Tryz.underlying24 inf_key rfl (by decide) (by decide) rfl (.tmp 28) (.tmp 33) rfl H (.slice (some ⟨g, 0, none⟩) 1 cap) 1 (kcs k1 sv1 kv1) rfl (own_by_heap (hown3.alloc (Obj.cells #[.int .i64 kk.kind, .int .i64 kk.flag, .string (bs kk.text), .slice s1 s2 s3, .slice t1 t2 t3] 26)) rfl) w3.heap.size 1 1 (kcs kk (.slice s1 s2 s3) (.slice t1 t2 t3)) rfl #[.int .i64 kk.kind, .int .i64 kk.flag, .string (bs kk.text), .slice s1 s2 s3, .slice t1 t2 t3] (0, 0) (by first | exact new_block _ _ | exact new_block w3 _) rfl rfl (by simp [kcs, Value.oneCell']) (by unfold bigN; omega) (by omega) (by first | (simp; done) | (simp; omega)) ?_
               intro g3 cap3 w4 hown4 hgrow4 hwh hgl4
               have hgw := hgrow4
               have hb4 := (hgrow4.block bb (by simp; omega) (fun e => by have e : some bb = some g := e; injection e with e; omega)).trans (show _ = some (.cells #[.int .i64 7, .int .i64 0, .string ⟨#[]⟩, .slice none 0 0, .slice (some ⟨g, 0, none⟩) 1 cap] 26 (0, 0)) from by first | exact alloc_block hB3 _ | exact alloc_block (w := w3) hB3 _)
               have hK4 : Kept [bb, g] w3 w4 := Kept.grown (w := w3.alloc (Obj.cells #[.int .i64 kk.kind, .int .i64 kk.flag, .string (bs kk.text), .slice s1 s2 s3, .slice t1 t2 t3] 26)) ((Kept.refl _ w3).alloc _) hgrow4 (by intro k e _; have e : some g = some k := e; injection e with e; simp [← e])
               have b4 := cell_of_block hb4 4
               have h4 := frozen_of_block hb4 4
               simp at b4
               have hbl4 := lt_of_block hb4))
          all_goals
            go_wp2
            go_roundg 0
            case measure => omega
            case rel =>
              have KF : Kept [bb, g] w3 (w4.setCell ⟨bb, 4, none⟩ (.slice (some ⟨g3, 0, none⟩) 2 cap3)) := hK4.setCell _ _ (by simp)
              have hA4 := KF.same hA3 (by simp; omega)
              have hB5 : (w4.setCell ⟨bb, 4, none⟩ (.slice (some ⟨g3, 0, none⟩) 2 cap3)).heap[bb]? = some (.cells #[.int .i64 7, .int .i64 0, .string ⟨#[]⟩, .slice none 0 0, .slice (some ⟨g3, 0, none⟩) 2 cap3] 26 (0, 0)) := by have := set_of_block (i := 4) hb4 (.slice (some ⟨g3, 0, none⟩) 2 cap3); simpa using this
              have hO5 := own_kept hown4 ((Kept.refl [bb] w4).setCell ⟨bb, 4, none⟩ (.slice (some ⟨g3, 0, none⟩) 2 cap3) (by simp)) (by simp; omega)
              have hX5 := KeyX.kept KF (by simp; omega) kk _ _ hXs
              have hR5 := hR2.keptB KF (by simp; omega)
              have hK5 := (HKw.out.trans hKK).trans' KF (fun _ e _ => e) (fun x e hx => by simp at e; omega)
              have hX51 := KeyX.kept KF (by simp; omega) k1 _ _ (KeyX.kept hKK (by simp; omega) k1 _ _ HX1.out)
              have hgw5 : g3 < wr.heap.size ∨ w3.heap.size ≤ g3 := by
                rcases hwh with e | e
                · have e : some g = some g3 := e
                  injection e with e; omega
                · right; rw [e]; simp
              exact .inr (.inr ⟨rfl, by go_num, k1, kk, g3, cap3, x1, y1, wr.heap.size, w3.heap.size, H, sv1, kv1, .slice s1 s2 s3, .slice t1 t2 t3, hn1, hnd, hA4, hB5, by simpa using hO5, hX51, hX5, hx1, hxy1, hyH, by omega, hsz3, KF.size, hgw5, by simpa [World.setCell] using hgl4, hK5, hR5⟩)
        · have HK := hid hK
          have HR := hid hR
          have z0 := cell_of_block hA 0
          have z1 := cell_of_block hA 1
          have z2 := cell_of_block hA 2
          have z3 := cell_of_block hA 3
          have z4 := cell_of_block hA 4
          simp at z0 z1 z2 z3 z4
          have f0 := frozen_of_block hA 0
          have f1 := frozen_of_block hA 1
          have f2 := frozen_of_block hA 2
          have f3 := frozen_of_block hA 3
          have f4 := frozen_of_block hA 4
          have b0 := cell_of_block hB 0
          have b1 := cell_of_block hB 1
          have b2 := cell_of_block hB 2
          have b3 := cell_of_block hB 3
          have b4 := cell_of_block hB 4
          simp at b0 b1 b2 b3 b4
          have hzl := lt_of_block hA
          have hbl := lt_of_block hB
          have HX := hid (fun W' (hK : Kept [w.heap.size] wr W') => keyX_mk2 (lo := w.heap.size) 7 hO2 hX1 hX2 (by omega) hxy1 hyH hyx hxy2 hy2 hg2 hgl hK (by omega))
          clear hA hB hO2 hX1 hX2 hK hR hg2
          go_wp2
          refine bodyPost_ret (v := .agg #[.int .i64 7, .int .i64 0, .string ⟨#[]⟩, .slice none 0 0, .slice (some ⟨g, 0, none⟩) 2 cap]) (by simp [results, Tryz.results26, go_sem, z0, z1, z2, z3, z4]) rfl ?_
          refine ⟨.mk 7 0 [] [] [k1, k2], _, _, rfl, ?_, HX.out _ ?_, by unfold nodesK nodesL nodesL nodesL; omega, (HR.out.keptB (cs := [w.heap.size]) ?_ (by simp; omega)).mono (by omega)⟩
          repeat' with_reducible first | exact HK.out | refine Kept.drew ?_ | refine Kept.drewN ?_ _ | refine Kept.alloc ?_ _ | refine Kept.setCell ?_ _ _ (by first | (simp; done) | (simp; omega))
          all_goals repeat' with_reducible first | exact Kept.refl _ _ | refine Kept.setCell ?_ _ _ (by simp)
  · have hx1' : (x1 == 0) = false := by rw [beq_eq_false_iff_ne]; exact hx1
    go_wp2_with fail
    refine (HP.out (0 + 1) (by omega) 9 _ (by simpa [Nat.add_assoc] using HR1.out) (by omega)).mono ?_
    rintro e w5 ⟨x9, rfl, x90, x91, -, hK, hR⟩
    have h9 := x91 (by omega)
    have HK5 := hid (HK1.out.trans hK)
    have HR5 := hid (hR.mono (show _ ≤ N + (0 + 1 + 1) by omega))
    have HZ5 := hid (hK.same HZ1.out (by simp; omega))
    have hs5 := HK5.out.size
    clear hK hR x91
    rcases (by omega : x9 = 0 ∨ x9 = 1 ∨ x9 = 2 ∨ x9 = 3 ∨ x9 = 4 ∨ x9 = 5 ∨ x9 = 6 ∨ x9 = 7 ∨ x9 = 8) with rfl | rfl | rfl | rfl | rfl | rfl | rfl | rfl | rfl
    · have HZ6 := HZ5
      have hz := HZ6.out
      have z0 := cell_of_block hz 0
      have z1 := cell_of_block hz 1
      have z2 := cell_of_block hz 2
      have z3 := cell_of_block hz 3
      have z4 := cell_of_block hz 4
      simp at z0 z1 z2 z3 z4
      have f0 := frozen_of_block hz 0
      have f1 := frozen_of_block hz 1
      have f2 := frozen_of_block hz 2
      have f3 := frozen_of_block hz 3
      have f4 := frozen_of_block hz 4
      have hzl := lt_of_block hz
      clear hz
      go_wp2
      refine bodyPost_ret (v := .agg #[.int .i64 0, .int .i64 0, .string ⟨#[]⟩, .slice none 0 0, .slice none 0 0]) (by simp [results, Tryz.results26, go_sem, z0, z1, z2, z3, z4]) rfl ?_
      refine keyD_back (A := w.heap.size) (w2 := w5) (k := .mk 0 0 [] [] []) (lo := w5.heap.size) (hi := w5.heap.size) (keyX_leaf _ _ _ _ _ (Nat.zero_le _) (spansX_none _ _ _)) (by have := lt_of_block HZ5.out; omega) (Nat.le_refl _) hlt (by simp [World.setCell]) HK5.out ?_ (HR5.out.mono (by omega)) (by unfold nodesK nodesL; omega)
      repeat' with_reducible first | exact Kept.refl _ _ | refine Kept.drew ?_ | refine Kept.drewN ?_ _ | refine Kept.alloc ?_ _ | refine Kept.setCell ?_ _ _ (by first | (simp; done) | (simp; omega))
    · go_wp2_with fail
      refine (lits_of rb (N + (0 + 1 + 1)) [[98, 111, 98], [120], [97, 109, 121], [111]] (by decide) (by decide) (by decide) (by omega) _ HR5.out).mono ?_
      rintro e w6 ⟨l, rfl, hl, hK, hR⟩
      have HZ6 := hid (hK.same HZ5.out (by simp; omega))
      have HK6 := hid (HK5.out.trans hK)
      have HR6 := hid hR
      have hs6 := hK.size
      clear hK hR
      have hz := HZ6.out
      have z0 := cell_of_block hz 0
      have z1 := cell_of_block hz 1
      have z2 := cell_of_block hz 2
      have z3 := cell_of_block hz 3
      have z4 := cell_of_block hz 4
      simp at z0 z1 z2 z3 z4
      have f0 := frozen_of_block hz 0
      have f1 := frozen_of_block hz 1
      have f2 := frozen_of_block hz 2
      have f3 := frozen_of_block hz 3
      have f4 := frozen_of_block hz 4
      have hzl := lt_of_block hz
      clear hz
      go_wp2
      refine bodyPost_ret (v := .agg #[.int .i64 2, .int .i64 0, .string (bs l), .slice none 0 0, .slice none 0 0]) (by simp [results, Tryz.results26, go_sem, z0, z1, z2, z3, z4]) rfl ?_
      refine keyD_back (A := w.heap.size) (w2 := w6) (k := .mk 2 0 l [] []) (lo := w5.heap.size) (hi := w6.heap.size) (keyX_leaf _ _ _ _ _ (by unfold bigN; omega) (spansX_none _ _ _)) (by have := lt_of_block HZ5.out; omega) (Nat.le_refl _) hlt (by simp [World.setCell]) HK6.out ?_ (HR6.out.mono (by omega)) (by unfold nodesK nodesL; omega)
      repeat' with_reducible first | exact Kept.refl _ _ | refine Kept.drew ?_ | refine Kept.drewN ?_ _ | refine Kept.alloc ?_ _ | refine Kept.setCell ?_ _ _ (by first | (simp; done) | (simp; omega))
    · go_wp2_with fail
      refine (lits_of rb (N + (0 + 1 + 1)) [[98, 111, 98], [120], [97, 109, 121], [111]] (by decide) (by decide) (by decide) (by omega) _ HR5.out).mono ?_
      rintro e w6 ⟨l, rfl, hl, hK, hR⟩
      have HZ6 := hid (hK.same HZ5.out (by simp; omega))
      have HK6 := hid (HK5.out.trans hK)
      have HR6 := hid hR
      have hs6 := hK.size
      clear hK hR
      have hz := HZ6.out
      have z0 := cell_of_block hz 0
      have z1 := cell_of_block hz 1
      have z2 := cell_of_block hz 2
      have z3 := cell_of_block hz 3
      have z4 := cell_of_block hz 4
      simp at z0 z1 z2 z3 z4
      have f0 := frozen_of_block hz 0
      have f1 := frozen_of_block hz 1
      have f2 := frozen_of_block hz 2
      have f3 := frozen_of_block hz 3
      have f4 := frozen_of_block hz 4
      have hzl := lt_of_block hz
      clear hz
      go_wp2
      refine bodyPost_ret (v := .agg #[.int .i64 2, .int .i64 0, .string (bs l), .slice none 0 0, .slice none 0 0]) (by simp [results, Tryz.results26, go_sem, z0, z1, z2, z3, z4]) rfl ?_
      refine keyD_back (A := w.heap.size) (w2 := w6) (k := .mk 2 0 l [] []) (lo := w5.heap.size) (hi := w6.heap.size) (keyX_leaf _ _ _ _ _ (by unfold bigN; omega) (spansX_none _ _ _)) (by have := lt_of_block HZ5.out; omega) (Nat.le_refl _) hlt (by simp [World.setCell]) HK6.out ?_ (HR6.out.mono (by omega)) (by unfold nodesK nodesL; omega)
      repeat' with_reducible first | exact Kept.refl _ _ | refine Kept.drew ?_ | refine Kept.drewN ?_ _ | refine Kept.alloc ?_ _ | refine Kept.setCell ?_ _ _ (by first | (simp; done) | (simp; omega))
    · go_wp2_with fail
      refine (l91Set_any rb (N + (0 + 1 + 1)) _ HR5.out (by omega)).mono ?_
      rintro e w6 ⟨v, d6, rfl, hd, hX, hK, hR⟩
      obtain ⟨sa6, sc6, sb6, rfl, hx⟩ := id hX
      have HX6 := hid hX
      have HZ6 := hid (hK.same HZ5.out (by simp; omega))
      have HK6 := hid (HK5.out.trans hK)
      have HR6 := hid hR
      have hs6 := hK.size
      clear hK hR hX hx
      have hz := HZ6.out
      have z0 := cell_of_block hz 0
      have z1 := cell_of_block hz 1
      have z2 := cell_of_block hz 2
      have z3 := cell_of_block hz 3
      have z4 := cell_of_block hz 4
      simp at z0 z1 z2 z3 z4
      have f0 := frozen_of_block hz 0
      have f1 := frozen_of_block hz 1
      have f2 := frozen_of_block hz 2
      have f3 := frozen_of_block hz 3
      have f4 := frozen_of_block hz 4
      have hzl := lt_of_block hz
      clear hz
      go_wp2
      refine bodyPost_ret (v := .agg #[.int .i64 3, .int .i64 0, .string ⟨#[]⟩, .slice sa6 d6.length sc6, .slice none 0 0]) (by simp [results, Tryz.results26, go_sem, z0, z1, z2, z3, z4]) rfl ?_
      refine keyD_back (A := w.heap.size) (w2 := w6) (k := .mk 3 0 [] d6 []) (lo := w5.heap.size) (hi := w6.heap.size) (keyX_leaf _ _ _ _ _ (Nat.zero_le _) HX6.out) (by have := lt_of_block HZ5.out; omega) (Nat.le_refl _) hlt (by simp [World.setCell]) HK6.out ?_ (HR6.out.mono (by omega)) (by unfold nodesK nodesL; omega)
      repeat' with_reducible first | exact Kept.refl _ _ | refine Kept.drew ?_ | refine Kept.drewN ?_ _ | refine Kept.alloc ?_ _ | refine Kept.setCell ?_ _ _ (by first | (simp; done) | (simp; omega))
    · go_wp2_with fail
      refine (l91Set_any rb (N + (0 + 1 + 1)) _ HR5.out (by omega)).mono ?_
      rintro e w6 ⟨v, d6, rfl, hd, hX, hK, hR⟩
      obtain ⟨sa6, sc6, sb6, rfl, hx⟩ := id hX
      have HX6 := hid hX
      have HZ6 := hid (hK.same HZ5.out (by simp; omega))
      have HK6 := hid (HK5.out.trans hK)
      have HR6 := hid hR
      have hs6 := hK.size
      clear hK hR hX hx
      have hz := HZ6.out
      have z0 := cell_of_block hz 0
      have z1 := cell_of_block hz 1
      have z2 := cell_of_block hz 2
      have z3 := cell_of_block hz 3
      have z4 := cell_of_block hz 4
      simp at z0 z1 z2 z3 z4
      have f0 := frozen_of_block hz 0
      have f1 := frozen_of_block hz 1
      have f2 := frozen_of_block hz 2
      have f3 := frozen_of_block hz 3
      have f4 := frozen_of_block hz 4
      have hzl := lt_of_block hz
      clear hz
      go_wp2
      refine bodyPost_ret (v := .agg #[.int .i64 3, .int .i64 0, .string ⟨#[]⟩, .slice sa6 d6.length sc6, .slice none 0 0]) (by simp [results, Tryz.results26, go_sem, z0, z1, z2, z3, z4]) rfl ?_
      refine keyD_back (A := w.heap.size) (w2 := w6) (k := .mk 3 0 [] d6 []) (lo := w5.heap.size) (hi := w6.heap.size) (keyX_leaf _ _ _ _ _ (Nat.zero_le _) HX6.out) (by have := lt_of_block HZ5.out; omega) (Nat.le_refl _) hlt (by simp [World.setCell]) HK6.out ?_ (HR6.out.mono (by omega)) (by unfold nodesK nodesL; omega)
      repeat' with_reducible first | exact Kept.refl _ _ | refine Kept.drew ?_ | refine Kept.drewN ?_ _ | refine Kept.alloc ?_ _ | refine Kept.setCell ?_ _ _ (by first | (simp; done) | (simp; omega))
    · go_wp2_with fail
      refine (l91Set_any rb (N + (0 + 1 + 1)) _ HR5.out (by omega)).mono ?_
      rintro e w6 ⟨v, d6, rfl, hd, hX, hK, hR⟩
      obtain ⟨sa6, sc6, sb6, rfl, hx⟩ := id hX
      have HX6 := hid hX
      have HZ6 := hid (hK.same HZ5.out (by simp; omega))
      have HK6 := hid (HK5.out.trans hK)
      have HR6 := hid hR
      have hs6 := hK.size
      clear hK hR hX hx
      have hz := HZ6.out
      have z0 := cell_of_block hz 0
      have z1 := cell_of_block hz 1
      have z2 := cell_of_block hz 2
      have z3 := cell_of_block hz 3
      have z4 := cell_of_block hz 4
      simp at z0 z1 z2 z3 z4
      have f0 := frozen_of_block hz 0
      have f1 := frozen_of_block hz 1
      have f2 := frozen_of_block hz 2
      have f3 := frozen_of_block hz 3
      have f4 := frozen_of_block hz 4
      have hzl := lt_of_block hz
      clear hz
      go_wp2
      refine bodyPost_ret (v := .agg #[.int .i64 4, .int .i64 0, .string ⟨#[]⟩, .slice sa6 d6.length sc6, .slice none 0 0]) (by simp [results, Tryz.results26, go_sem, z0, z1, z2, z3, z4]) rfl ?_
      refine keyD_back (A := w.heap.size) (w2 := w6) (k := .mk 4 0 [] d6 []) (lo := w5.heap.size) (hi := w6.heap.size) (keyX_leaf _ _ _ _ _ (Nat.zero_le _) HX6.out) (by have := lt_of_block HZ5.out; omega) (Nat.le_refl _) hlt (by simp [World.setCell]) HK6.out ?_ (HR6.out.mono (by omega)) (by unfold nodesK nodesL; omega)
      repeat' with_reducible first | exact Kept.refl _ _ | refine Kept.drew ?_ | refine Kept.drewN ?_ _ | refine Kept.alloc ?_ _ | refine Kept.setCell ?_ _ _ (by first | (simp; done) | (simp; omega))
    · go_wp2_with fail
      refine (l91Set_any rb (N + (0 + 1 + 1)) _ HR5.out (by omega)).mono ?_
      rintro e w6 ⟨v, d6, rfl, hd, hX, hK, hR⟩
      obtain ⟨sa6, sc6, sb6, rfl, hx⟩ := id hX
      have HX6 := hid hX
      have HZ6 := hid (hK.same HZ5.out (by simp; omega))
      have HK6 := hid (HK5.out.trans hK)
      have HR6 := hid hR
      have hs6 := hK.size
      clear hK hR hX hx
      have hz := HZ6.out
      have z0 := cell_of_block hz 0
      have z1 := cell_of_block hz 1
      have z2 := cell_of_block hz 2
      have z3 := cell_of_block hz 3
      have z4 := cell_of_block hz 4
      simp at z0 z1 z2 z3 z4
      have f0 := frozen_of_block hz 0
      have f1 := frozen_of_block hz 1
      have f2 := frozen_of_block hz 2
      have f3 := frozen_of_block hz 3
      have f4 := frozen_of_block hz 4
      have hzl := lt_of_block hz
      clear hz
      go_wp2
      refine bodyPost_ret (v := .agg #[.int .i64 4, .int .i64 0, .string ⟨#[]⟩, .slice sa6 d6.length sc6, .slice none 0 0]) (by simp [results, Tryz.results26, go_sem, z0, z1, z2, z3, z4]) rfl ?_
      refine keyD_back (A := w.heap.size) (w2 := w6) (k := .mk 4 0 [] d6 []) (lo := w5.heap.size) (hi := w6.heap.size) (keyX_leaf _ _ _ _ _ (Nat.zero_le _) HX6.out) (by have := lt_of_block HZ5.out; omega) (Nat.le_refl _) hlt (by simp [World.setCell]) HK6.out ?_ (HR6.out.mono (by omega)) (by unfold nodesK nodesL; omega)
      repeat' with_reducible first | exact Kept.refl _ _ | refine Kept.drew ?_ | refine Kept.drewN ?_ _ | refine Kept.alloc ?_ _ | refine Kept.setCell ?_ _ _ (by first | (simp; done) | (simp; omega))
    · go_wp2_with fail
      refine (HP.out (0 + 1 + 1) (by omega) 5 _ HR5.out (by omega)).mono ?_
      rintro e w7 ⟨x7, rfl, x70, x71, -, hK, hR⟩
      have h7 := x71 (by omega)
      obtain ⟨y7, rfl⟩ := Int.eq_ofNat_of_zero_le x70
      have HZ7 := hid (hK.same HZ5.out (by simp; omega))
      have HK7 := hid (HK5.out.trans hK)
      have HR7 := hid hR
      have hs7 := hK.size
      clear hK hR x71
      go_wp2_with fail
      refine (l4Bit_any y7 (by omega) _).mono ?_
      rintro e w6 ⟨rfl, hK⟩
      have HZ6 := hid (hK.same HZ7.out (by simp))
      have HK6 := hid (HK7.out.trans hK.nil)
      have HR6 := hid (HR7.out.kept hK)
      have hs6 := hK.size
      clear hK
      obtain ⟨b7, hb7⟩ : ∃ b7, bitN y7 = b7 := ⟨_, rfl⟩
      rw [hb7]
      clear hb7
      have hz := HZ6.out
      have z0 := cell_of_block hz 0
      have z1 := cell_of_block hz 1
      have z2 := cell_of_block hz 2
      have z3 := cell_of_block hz 3
      have z4 := cell_of_block hz 4
      simp at z0 z1 z2 z3 z4
      have f0 := frozen_of_block hz 0
      have f1 := frozen_of_block hz 1
      have f2 := frozen_of_block hz 2
      have f3 := frozen_of_block hz 3
      have f4 := frozen_of_block hz 4
      have hzl := lt_of_block hz
      clear hz
      go_wp2
      refine bodyPost_ret (v := .agg #[.int .i64 1, .int .i64 b7, .string ⟨#[]⟩, .slice none 0 0, .slice none 0 0]) (by simp [results, Tryz.results26, go_sem, z0, z1, z2, z3, z4]) rfl ?_
      refine keyD_back (A := w.heap.size) (w2 := w6) (k := .mk 1 b7 [] [] []) (lo := w5.heap.size) (hi := w6.heap.size) (keyX_leaf _ _ _ _ _ (Nat.zero_le _) (spansX_none _ _ _)) (by have := lt_of_block HZ5.out; omega) (Nat.le_refl _) hlt (by simp [World.setCell]) HK6.out ?_ (HR6.out.mono (by omega)) (by unfold nodesK nodesL; omega)
      repeat' with_reducible first | exact Kept.refl _ _ | refine Kept.drew ?_ | refine Kept.drewN ?_ _ | refine Kept.alloc ?_ _ | refine Kept.setCell ?_ _ _ (by first | (simp; done) | (simp; omega))
    · go_wp2_with fail
      refine (HP.out (0 + 1 + 1) (by omega) 5 _ HR5.out (by omega)).mono ?_
      rintro e w7 ⟨x7, rfl, x70, x71, -, hK, hR⟩
      have h7 := x71 (by omega)
      obtain ⟨y7, rfl⟩ := Int.eq_ofNat_of_zero_le x70
      have HZ7 := hid (hK.same HZ5.out (by simp; omega))
      have HK7 := hid (HK5.out.trans hK)
      have HR7 := hid hR
      have hs7 := hK.size
      clear hK hR x71
      go_wp2_with fail
      refine (l4Bit_any y7 (by omega) _).mono ?_
      rintro e w6 ⟨rfl, hK⟩
      have HZ6 := hid (hK.same HZ7.out (by simp))
      have HK6 := hid (HK7.out.trans hK.nil)
      have HR6 := hid (HR7.out.kept hK)
      have hs6 := hK.size
      clear hK
      obtain ⟨b7, hb7⟩ : ∃ b7, bitN y7 = b7 := ⟨_, rfl⟩
      rw [hb7]
      clear hb7
      have hz := HZ6.out
      have z0 := cell_of_block hz 0
      have z1 := cell_of_block hz 1
      have z2 := cell_of_block hz 2
      have z3 := cell_of_block hz 3
      have z4 := cell_of_block hz 4
      simp at z0 z1 z2 z3 z4
      have f0 := frozen_of_block hz 0
      have f1 := frozen_of_block hz 1
      have f2 := frozen_of_block hz 2
      have f3 := frozen_of_block hz 3
      have f4 := frozen_of_block hz 4
      have hzl := lt_of_block hz
      clear hz
      go_wp2
      refine bodyPost_ret (v := .agg #[.int .i64 1, .int .i64 b7, .string ⟨#[]⟩, .slice none 0 0, .slice none 0 0]) (by simp [results, Tryz.results26, go_sem, z0, z1, z2, z3, z4]) rfl ?_
      refine keyD_back (A := w.heap.size) (w2 := w6) (k := .mk 1 b7 [] [] []) (lo := w5.heap.size) (hi := w6.heap.size) (keyX_leaf _ _ _ _ _ (Nat.zero_le _) (spansX_none _ _ _)) (by have := lt_of_block HZ5.out; omega) (Nat.le_refl _) hlt (by simp [World.setCell]) HK6.out ?_ (HR6.out.mono (by omega)) (by unfold nodesK nodesL; omega)
      repeat' with_reducible first | exact Kept.refl _ _ | refine Kept.drew ?_ | refine Kept.drewN ?_ _ | refine Kept.alloc ?_ _ | refine Kept.setCell ?_ _ _ (by first | (simp; done) | (simp; omega))
end Go.Proofs.YtoleonldkifcbaaGreatDoor
