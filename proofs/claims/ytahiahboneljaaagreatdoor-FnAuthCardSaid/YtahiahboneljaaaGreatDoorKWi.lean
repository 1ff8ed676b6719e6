/- The walks of base64 and of the plain text (spec). -/
import Derived.Test.YtahiahboneljaaaGreatDoorKWg
import Derived.Laws.IdiomStrings
import Derived.Laws.OwnMore
import Derived.Test.YtahiahboneljaaaGreatDoorKWh
import Derived.Test.YtahiahboneljaaaGreatDoorKWc
namespace Go.Proofs.YtahiahboneljaaaGreatDoor
open Go.RowKit

theorem l2Letter_any (n : Nat) (x : Int) (w : World) (h : n < 64) (hx : x = n) :
    Calls Tryz.prog 81 #[.int .i64 x] w fun e w' => e = .returned (.int .u8 (sgn n).toNat) ∧ w' = w := by
  subst hx
  have h' : (n : Int) < 64 := by omega
  have HG := hid (sgnS_get n (by rw [sgnS_size]; exact h))
  go_enter Tryz.func81, Tryz.ntmps81
  go_wp2
  go_ret
  refine ⟨?_, rfl⟩
  rw [← HG.out]; rfl

theorem sgn_all : ∀ n : Fin 256, ∀ m, sgv (UInt8.ofNat n) = some m → sgn m = UInt8.ofNat n := by
  intro n
  have h : (match sgv (UInt8.ofNat n) with | some m => sgn m == UInt8.ofNat n | none => true) = true := by revert n; decide +kernel
  intro m hm
  rw [hm] at h
  simpa using h
theorem sgn_sgv {b : UInt8} {m : Nat} (h : sgv b = some m) : sgn m = b := by
  have := sgn_all ⟨b.toNat, b.toNat_lt⟩ m (by simpa using h)
  simpa using this

theorem l2Value_any (b : UInt8) (w : World) : Calls Tryz.prog 123 #[.int .u8 b.toNat] w fun e w' => e = .returned (.int .i64 (sgI b)) ∧ w' = w := by
  go_enter Tryz.func123, Tryz.ntmps123
  go_wp2
  go_loop [3] (fun c => ∃ k : Nat, k ≤ 64 ∧ c = .int .i64 k ∧ ∀ j, j < k → sgn j ≠ b) (fun c => 64 - (intOf c).toNat)
  case atStart => exact ⟨0, by omega, rfl, fun j hj => by omega⟩
  case round =>
    obtain ⟨k, hk, rfl, hno⟩ := hrel
    have HN := hid hno
    clear hno
    by_cases hlt : k < 64
    · by_cases hb : sgn k = b
      · have hb' : (((sgn k).toNat : Int) == (b.toNat : Int)) = true := by rw [hb]; simp
        have HB := hid hb
        have HR := hid (show sgI b = (k : Int) by rw [← hb]; exact sgI_some (sgv_sgn k hlt))
        clear hb
        go_wp2_with fail
        refine (l2Letter_any k _ _ hlt rfl).mono ?_
        rintro e w1 ⟨rfl, rfl⟩
        go_wp2
        go_ret
        exact ⟨ret_int HR.out.symm, rfl⟩
      · have hb' : (((sgn k).toNat : Int) == (b.toNat : Int)) = false := by
          rw [beq_eq_false_iff_ne]; intro e; exact hb (UInt8.toNat_inj.1 (by omega))
        have HB := hid hb
        clear hb
        go_wp2_with fail
        refine (l2Letter_any k _ _ hlt rfl).mono ?_
        rintro e w1 ⟨rfl, rfl⟩
        go_wp2
        go_round
        case rel =>
          refine ⟨k + 1, by omega, by go_num, fun j hj => ?_⟩
          by_cases e : j = k
          · rw [e]; exact HB.out
          · exact HN.out j (by omega)
        case measure => simp [intOf]; omega
    · obtain rfl : k = 64 := by omega
      have HR := hid (show sgI b = -1 by
        cases h : sgv b with
        | none => exact sgI_none h
        | some m => exact absurd (sgn_sgv h) (HN.out m (sgv_lt h)))
      go_wp2
      go_ret
      exact ⟨ret_int HR.out.symm, rfl⟩

def bv (x : UInt8) : Value := .int .u8 x.toNat
theorem bv_one (l : List UInt8) : ∀ u ∈ l.map bv, u.oneCell' = true := by
  intro u hu; obtain ⟨x, -, rfl⟩ := List.mem_map.1 hu; rfl

/-- append of bytes, laid into a block, to a row of bytes of the call's own. -/
theorem append_bytes {ops : Array Oper} {rest : List Oper} {o : Oper} {a : Act} {w : World} {Q : Exit → Act → World → Prop} (hgd : o.guard = none) (s x : Operand)
    (ho : o.op = .call { callee := .builtin .append, args := #[s, x], argTypes := #[22, 22] })
    (base : Nat) (v : Value) (n : Nat) (xs : List Value) (hs : a.eval s = v) (hown : w.ownsRow base 5 1 v n xs)
    (g : Nat) (news : List UInt8) (t : TypeId) (f : Nat × Nat) (hx : a.eval x = .slice (some ⟨g, 0, none⟩) news.length news.length) (hg : w.heap[g]? = some (.cells (news.map bv).toArray t f)) (h0 : 0 < news.length) (hn : n ≤ bigN) (hm : news.length ≤ bigN) (hbase : base ≤ w.heap.size)
    (h : ∀ g' cap' w', w'.ownsRow base 5 1 (.slice (some ⟨g', 0, none⟩) (n + news.length) cap') (n + news.length) (xs ++ news.map bv) → w.grownBy w' v.ownBlock → wpList Tryz.prog ops Q rest (a.put o.dst (.slice (some ⟨g', 0, none⟩) (n + news.length) cap')) w') : wpList Tryz.prog ops Q (o :: rest) a w := by
  obtain ⟨i0, hi, hz0, hz1, hz2⟩ := info_parts inf_byte
  refine wpList_append_own w hgd s x 22 ho base 5 i0 _ 1 1 Tryz.underlying22 hi hz0 hz1 hz2 rfl (by decide) v n xs hs hown ⟨g, 0, none⟩ news.length news.length (news.map bv) hx (by simp) ?_ (bv_one news) ?_ ?_ hbase (fun v' w' h1 h2 _ => ?_)
  · intro j u hj
    rw [Addr.add_lit, cell_of_block hg]; simpa using hj
  · unfold bigN at hn hm; unfold maxLen; omega
  · unfold bigN at hn hm; omega
  · obtain ⟨g', cap', rfl, -⟩ := own_open h1 (by omega)
    exact h g' cap' w' h1 h2

theorem strBytes (W : World) (base g n cap : Nat) (l : List UInt8) (hn : n = l.length) (h : W.ownsRow base 5 1 (.slice (some ⟨g, 0, none⟩) n cap) n (l.map bv)) :
    (convert 22 9 (.slice (some ⟨g, 0, none⟩) n cap)).run Tryz.prog W = .ok (.string (bs l)) W := by
  subst hn
  exact run_convert_bytes_back (P := Tryz.prog) W 22 9 5 ⟨g, 0, none⟩ cap l Tryz.underlying22 Tryz.underlying5 Tryz.underlying9 (fun j hj => by
    rw [Addr.add_lit, Nat.zero_add, h.cellAt j (by omega), List.getElem?_map, List.getElem?_eq_getElem hj]; rfl)

theorem wrap_byte (x : UInt8) : wrap64 (x.toNat : Int) = x.toNat := by have := x.toNat_lt; unfold wrap64; omega

theorem wrap_bd (x : UInt8) : 0 ≤ wrap64 (x.toNat : Int) ∧ wrap64 (x.toNat : Int) < 256 := by rw [wrap_byte]; have := x.toNat_lt; omega
theorem sum_lt (a b c : UInt8) : (a.toNat * 65536 + b.toNat * 256 + c.toNat) / 262144 < 64 ∧ (a.toNat * 65536 + b.toNat * 256 + c.toNat) / 4096 % 64 < 64 ∧ (a.toNat * 65536 + b.toNat * 256 + c.toNat) / 64 % 64 < 64 ∧ (a.toNat * 65536 + b.toNat * 256 + c.toNat) % 64 < 64 := by
  have := a.toNat_lt; have := b.toNat_lt; have := c.toNat_lt; omega
theorem sum_lt2 (a b : UInt8) : (a.toNat * 65536 + b.toNat * 256) / 262144 < 64 ∧ (a.toNat * 65536 + b.toNat * 256) / 4096 % 64 < 64 ∧ (a.toNat * 65536 + b.toNat * 256) / 64 % 64 < 64 ∧ (a.toNat * 65536 + b.toNat * 256) % 64 < 64 := by
  have := a.toNat_lt; have := b.toNat_lt; omega
theorem sum_lt1 (a : UInt8) : (a.toNat * 65536) / 262144 < 64 ∧ (a.toNat * 65536) / 4096 % 64 < 64 ∧ (a.toNat * 65536) / 64 % 64 < 64 ∧ (a.toNat * 65536) % 64 < 64 := by
  have := a.toNat_lt; omega
theorem sum3a (a b c : UInt8) : (65536 * wrap64 (a.toNat : Int) + 256 * wrap64 (b.toNat : Int) + wrap64 (c.toNat : Int)) / 262144 = (((a.toNat * 65536 + b.toNat * 256 + c.toNat) / 262144 : Nat) : Int) := by simp only [wrap_byte]; omega
theorem sum3b (a b c : UInt8) : (65536 * wrap64 (a.toNat : Int) + 256 * wrap64 (b.toNat : Int) + wrap64 (c.toNat : Int)) / 4096 % 64 = (((a.toNat * 65536 + b.toNat * 256 + c.toNat) / 4096 % 64 : Nat) : Int) := by simp only [wrap_byte]; omega
theorem sum3c (a b c : UInt8) : (65536 * wrap64 (a.toNat : Int) + 256 * wrap64 (b.toNat : Int) + wrap64 (c.toNat : Int)) / 64 % 64 = (((a.toNat * 65536 + b.toNat * 256 + c.toNat) / 64 % 64 : Nat) : Int) := by simp only [wrap_byte]; omega
theorem sum3d (a b c : UInt8) : (65536 * wrap64 (a.toNat : Int) + 256 * wrap64 (b.toNat : Int) + wrap64 (c.toNat : Int)) % 64 = (((a.toNat * 65536 + b.toNat * 256 + c.toNat) % 64 : Nat) : Int) := by simp only [wrap_byte]; omega
theorem drop3 {l : List UInt8} {k : Nat} (h : k + 2 < l.length) : l.drop k = l[k] :: l[k + 1] :: l[k + 2] :: l.drop (k + 3) := by
  rw [List.drop_eq_getElem_cons (by omega : k < l.length), List.drop_eq_getElem_cons (by omega : k + 1 < l.length), List.drop_eq_getElem_cons (by omega : k + 1 + 1 < l.length)]
theorem drop2 {l : List UInt8} {k : Nat} (h : k + 2 = l.length) : l.drop k = [l[k], l[k + 1]] := by
  rw [List.drop_eq_getElem_cons (by omega : k < l.length), List.drop_eq_getElem_cons (by omega : k + 1 < l.length), List.drop_of_length_le (by omega)]
theorem drop1 {l : List UInt8} {k : Nat} (h : k + 1 = l.length) : l.drop k = [l[k]] := by
  rw [List.drop_eq_getElem_cons (by omega : k < l.length), List.drop_of_length_le (by omega)]

theorem sum2a (a b : UInt8) : (65536 * wrap64 (a.toNat : Int) + 256 * wrap64 (b.toNat : Int)) / 262144 = (((a.toNat * 65536 + b.toNat * 256) / 262144 : Nat) : Int) := by simp only [wrap_byte]; omega
theorem sum2b (a b : UInt8) : (65536 * wrap64 (a.toNat : Int) + 256 * wrap64 (b.toNat : Int)) / 4096 % 64 = (((a.toNat * 65536 + b.toNat * 256) / 4096 % 64 : Nat) : Int) := by simp only [wrap_byte]; omega
theorem sum2c (a b : UInt8) : (65536 * wrap64 (a.toNat : Int) + 256 * wrap64 (b.toNat : Int)) / 64 % 64 = (((a.toNat * 65536 + b.toNat * 256) / 64 % 64 : Nat) : Int) := by simp only [wrap_byte]; omega
theorem sum2d (a b : UInt8) : (65536 * wrap64 (a.toNat : Int) + 256 * wrap64 (b.toNat : Int)) % 64 = (((a.toNat * 65536 + b.toNat * 256) % 64 : Nat) : Int) := by simp only [wrap_byte]; omega
theorem sum1a (a : UInt8) : (65536 * wrap64 (a.toNat : Int)) / 262144 = (((a.toNat * 65536) / 262144 : Nat) : Int) := by simp only [wrap_byte]; omega
theorem sum1b (a : UInt8) : (65536 * wrap64 (a.toNat : Int)) / 4096 % 64 = (((a.toNat * 65536) / 4096 % 64 : Nat) : Int) := by simp only [wrap_byte]; omega
theorem sum1c (a : UInt8) : (65536 * wrap64 (a.toNat : Int)) / 64 % 64 = (((a.toNat * 65536) / 64 % 64 : Nat) : Int) := by simp only [wrap_byte]; omega
theorem sum1d (a : UInt8) : (65536 * wrap64 (a.toNat : Int)) % 64 = (((a.toNat * 65536) % 64 : Nat) : Int) := by simp only [wrap_byte]; omega

theorem four3 (a b c : UInt8) : [sgn ((a.toNat * 65536 + b.toNat * 256 + c.toNat) / 262144), sgn ((a.toNat * 65536 + b.toNat * 256 + c.toNat) / 4096 % 64), sgn ((a.toNat * 65536 + b.toNat * 256 + c.toNat) / 64 % 64), sgn ((a.toNat * 65536 + b.toNat * 256 + c.toNat) % 64)] = four [a, b, c] := by
  have := a.toNat_lt; have := b.toNat_lt; have := c.toNat_lt
  simp only [four]
  congr 1
  · congr 1; omega
  · congr 1
    · congr 1; omega
    · congr 1
      · congr 1; omega
      · congr 1; congr 1; omega
theorem four2 (a b : UInt8) : [sgn ((a.toNat * 65536 + b.toNat * 256) / 262144), sgn ((a.toNat * 65536 + b.toNat * 256) / 4096 % 64), sgn ((a.toNat * 65536 + b.toNat * 256) / 64 % 64), 61] = four [a, b] := by
  have := a.toNat_lt; have := b.toNat_lt
  simp only [four]
  congr 1
  · congr 1; omega
  · congr 1
    · congr 1; omega
    · congr 1
      congr 1; omega
theorem four1 (a : UInt8) : [sgn ((a.toNat * 65536) / 262144), sgn ((a.toNat * 65536) / 4096 % 64), 61, 61] = four [a] := by
  have := a.toNat_lt
  simp only [four]
  congr 1
  · congr 1; omega
  · congr 1
    congr 1; omega

section
variable {W : World} {base g cap : Nat} {D : List UInt8} {a b c d : UInt8}
theorem own_ge2 {n m : Nat} {xs : List Value} (h : W.ownsRow base 5 1 (.slice (some ⟨g, 0, none⟩) m cap) n xs) : base ≤ g := (h.lt g rfl).1
theorem own_cap {n : Nat} {xs : List Value} (h : W.ownsRow base 5 1 (.slice (some ⟨g, 0, none⟩) n cap) n xs) : n ≤ cap := by
  rcases h.2 with ⟨hv, -⟩ | ⟨g', cap', cur, hv, -, -, hc, -⟩
  · cases hv
  · injection hv with e1 e2 e3; rw [e3]; exact hc
theorem own_c2 (h : W.ownsRow base 5 1 (.slice (some ⟨g, 0, none⟩) (D.length + 4) cap) (D.length + 4) (D.map bv ++ [a, b, c, d].map bv)) : W.cell? ⟨g, D.length + 2, none⟩ = some (.int .u8 c.toNat) := by
  rw [h.cellAt _ (by omega), List.getElem?_append_right (by simp)]; simp [bv]
theorem own_c3 (h : W.ownsRow base 5 1 (.slice (some ⟨g, 0, none⟩) (D.length + 4) cap) (D.length + 4) (D.map bv ++ [a, b, c, d].map bv)) : W.cell? ⟨g, D.length + 3, none⟩ = some (.int .u8 d.toNat) := by
  rw [h.cellAt _ (by omega), List.getElem?_append_right (by simp)]; simp [bv]
theorem own_s2 (h : W.ownsRow base 5 1 (.slice (some ⟨g, 0, none⟩) (D.length + 4) cap) (D.length + 4) (D.map bv ++ [a, b, c, d].map bv)) (x : UInt8) : (W.setCell ⟨g, D.length + 2, none⟩ (.int .u8 x.toNat)).ownsRow base 5 1 (.slice (some ⟨g, 0, none⟩) (D.length + 4) cap) (D.length + 4) (D.map bv ++ [a, b, x, d].map bv) := by
  have := (h.stored (D.length + 2) (.int .u8 x.toNat)).1
  rw [List.set_append, if_neg (by simp)] at this
  simpa [bv] using this
theorem own_s3 (h : W.ownsRow base 5 1 (.slice (some ⟨g, 0, none⟩) (D.length + 4) cap) (D.length + 4) (D.map bv ++ [a, b, c, d].map bv)) (x : UInt8) : (W.setCell ⟨g, D.length + 3, none⟩ (.int .u8 x.toNat)).ownsRow base 5 1 (.slice (some ⟨g, 0, none⟩) (D.length + 4) cap) (D.length + 4) (D.map bv ++ [a, b, c, x].map bv) := by
  have := (h.stored (D.length + 3) (.int .u8 x.toNat)).1
  rw [List.set_append, if_neg (by simp)] at this
  simpa [bv] using this
end

set_option maxRecDepth 100000 in
set_option maxHeartbeats 4000000 in
theorem l2Encode_any (l : List UInt8) (w : World) (hl : l.length ≤ 1000) :
    Calls Tryz.prog 65 #[.string (bs l)] w fun e w' => e = .returned (.string (bs (enc l))) ∧ Kept [] w w' := by
  go_enter Tryz.func65, Tryz.ntmps65
  go_wp2
  go_loopg [3, 4] (l.length + 3) (fun m v i wr => ∃ (k g cap : Nat) (D : List UInt8), m = l.length + 3 - k ∧ i = .int .i64 k ∧ v = .slice (some ⟨g, 0, none⟩) D.length cap ∧ k ≤ l.length + 3 ∧ D.length ≤ 4 * k ∧ D ++ enc (l.drop k) = enc l ∧
      wr.ownsRow w.heap.size 5 1 (.slice (some ⟨g, 0, none⟩) D.length cap) D.length (D.map bv) ∧ Kept [] w wr)
  case atStart =>
    exact ⟨0, w.heap.size, 0, [], rfl, rfl, rfl, by omega, by simp, by simp, World.ownsRow_lit w #[] 0 (Nat.le_refl _) (by unfold maxLen; omega) rfl, (Kept.refl _ _).alloc _⟩
  case round =>
    obtain ⟨k, g, cap, D, hm, rfl, rfl, hk, hD, henc, hown, hK⟩ := hrel
    have HM := hid hm
    have HE := hid henc
    have HK := hid hK
    have HO := hid hown
    clear hm henc hK hown
    by_cases hlt : k < l.length
    · have hlt' : (k : Int) < l.length := by omega
      by_cases h3 : k + 2 < l.length
      · have h1' : (k : Int) + 1 < l.length := by omega
        have h2' : (k : Int) + 2 < l.length := by omega
        have h1'' : ¬ (l.length : Int) ≤ k + 1 := by omega
        have h2'' : ¬ (l.length : Int) ≤ k + 2 := by omega
        have ha := l[k].toNat_lt
        have hb := l[k + 1].toNat_lt
        have hc := l[k + 2].toNat_lt
        obtain ⟨ga0, ga1⟩ := wrap_bd l[k]
        obtain ⟨gb0, gb1⟩ := wrap_bd l[k + 1]
        obtain ⟨gc0, gc1⟩ := wrap_bd l[k + 2]
        have wa0 : 0 ≤ wrap64 ((bs l)[k].toNat : Int) := ga0
        have wa1 : wrap64 ((bs l)[k].toNat : Int) < 256 := ga1
        have wb0 : 0 ≤ wrap64 (((bs l)[k + 1]'(by rw [bs_size]; omega)).toNat : Int) := gb0
        have wb1 : wrap64 (((bs l)[k + 1]'(by rw [bs_size]; omega)).toNat : Int) < 256 := gb1
        have wc0 : 0 ≤ wrap64 ((bs l)[k + 2].toNat : Int) := gc0
        have wc1 : wrap64 ((bs l)[k + 2].toNat : Int) < 256 := gc1
        clear ga0 ga1 gb0 gb1 gc0 gc1 ha hb hc
        go_wp2_with fail
        refine (l2Letter_any ((l[k].toNat * 65536 + l[k + 1].toNat * 256 + l[k + 2].toNat) / 262144) _ _ (sum_lt l[k] l[k + 1] l[k + 2]).1 (sum3a l[k] l[k + 1] l[k + 2])).mono ?_
        rintro e w1 ⟨rfl, rfl⟩
        go_wp2_with fail
        refine (l2Letter_any ((l[k].toNat * 65536 + l[k + 1].toNat * 256 + l[k + 2].toNat) / 4096 % 64) _ _ (sum_lt l[k] l[k + 1] l[k + 2]).2.1 (sum3b l[k] l[k + 1] l[k + 2])).mono ?_
        rintro e w1 ⟨rfl, rfl⟩
        go_wp2_with fail
        refine (l2Letter_any ((l[k].toNat * 65536 + l[k + 1].toNat * 256 + l[k + 2].toNat) / 64 % 64) _ _ (sum_lt l[k] l[k + 1] l[k + 2]).2.2.1 (sum3c l[k] l[k + 1] l[k + 2])).mono ?_
        rintro e w1 ⟨rfl, rfl⟩
        go_wp2_with fail
        refine (l2Letter_any ((l[k].toNat * 65536 + l[k + 1].toNat * 256 + l[k + 2].toNat) % 64) _ _ (sum_lt l[k] l[k + 1] l[k + 2]).2.2.2 (sum3d l[k] l[k + 1] l[k + 2])).mono ?_
        rintro e w1 ⟨rfl, rfl⟩
        go_wp2_with (at_builtin; refine append_bytes rfl (.tmp 43) (.tmp 58) rfl w.heap.size _ D.length (D.map bv) rfl (HO.out.alloc _) w1.heap.size [sgn ((l[k].toNat * 65536 + l[k + 1].toNat * 256 + l[k + 2].toNat) / 262144), sgn ((l[k].toNat * 65536 + l[k + 1].toNat * 256 + l[k + 2].toNat) / 4096 % 64), sgn ((l[k].toNat * 65536 + l[k + 1].toNat * 256 + l[k + 2].toNat) / 64 % 64), sgn ((l[k].toNat * 65536 + l[k + 1].toNat * 256 + l[k + 2].toNat) % 64)] 5 (0, 0) rfl (new_block w1 _) (by simp) (by unfold bigN; omega) (by simp; unfold bigN; omega) (le_alloc HK.out.size _) ?_; intro g2 cap2 w2 hown2 hgrow2; have hown3 : w2.ownsRow w.heap.size 5 1 (.slice (some ⟨g2, 0, none⟩) (D.length + 4) cap2) (D.length + 4) (D.map bv ++ [sgn ((l[k].toNat * 65536 + l[k + 1].toNat * 256 + l[k + 2].toNat) / 262144), sgn ((l[k].toNat * 65536 + l[k + 1].toNat * 256 + l[k + 2].toNat) / 4096 % 64), sgn ((l[k].toNat * 65536 + l[k + 1].toNat * 256 + l[k + 2].toNat) / 64 % 64), sgn ((l[k].toNat * 65536 + l[k + 1].toNat * 256 + l[k + 2].toNat) % 64)].map bv) := hown2; have HO2 := hid hown3; have HK2 := hid ((HK.out.alloc _).own (HO.out.alloc _) hgrow2 (Nat.le_refl _)); have hg2 := own_ge2 hown3; have hgl := (hown3.lt g2 rfl).2; have hcz := own_cap hown3; have c2 := own_c2 hown3; have c3 := own_c3 hown3; have f2 := hown3.frozenAt (D.length + 2); have f3 := hown3.frozenAt (D.length + 3); clear hown2 hgrow2 hown3)
        go_roundg (l.length + 3 - (k + 3))
        case measure => have := HM.out; omega
        case rel =>
          refine ⟨k + 3, g2, cap2, D ++ four [l[k], l[k + 1], l[k + 2]], rfl, by go_num, by simp [four], by omega, by simp [four]; omega, ?_, ?_, HK2.out⟩
          · rw [← HE.out, List.append_assoc]
            congr 1
            have hne : l.drop k ≠ [] := fun e => by have := congrArg List.length e; rw [List.length_drop, List.length_nil] at this; omega
            rw [enc_cons _ hne, List.drop_drop, drop3 h3]; rfl
          · have := HO2.out
            rw [four3] at this
            simpa [four] using this
      · by_cases h2 : k + 2 = l.length
        · have hlt1 : k + 1 < l.length := by omega
          have h1' : (k : Int) + 1 < l.length := by omega
          have h2' : ¬ (k : Int) + 2 < l.length := by omega
          have h1'' : ¬ (l.length : Int) ≤ k + 1 := by omega
          have h2'' : (l.length : Int) ≤ k + 2 := by omega
          obtain ⟨ga0, ga1⟩ := wrap_bd l[k]
          obtain ⟨gb0, gb1⟩ := wrap_bd (l[k + 1]'hlt1)
          have wa0 : 0 ≤ wrap64 ((bs l)[k].toNat : Int) := ga0
          have wa1 : wrap64 ((bs l)[k].toNat : Int) < 256 := ga1
          have wb0 : 0 ≤ wrap64 (((bs l)[k + 1]'(by rw [bs_size]; exact hlt1)).toNat : Int) := gb0
          have wb1 : wrap64 (((bs l)[k + 1]'(by rw [bs_size]; exact hlt1)).toNat : Int) < 256 := gb1
          clear ga0 ga1 gb0 gb1 h3
          have H2 := hid h2
          clear h2
          go_wp2_with fail
          refine (l2Letter_any ((l[k].toNat * 65536 + (l[k + 1]'hlt1).toNat * 256) / 262144) _ _ (sum_lt2 l[k] (l[k + 1]'hlt1)).1 (sum2a l[k] (l[k + 1]'hlt1))).mono ?_
          rintro e w1 ⟨rfl, rfl⟩
          go_wp2_with fail
          refine (l2Letter_any ((l[k].toNat * 65536 + (l[k + 1]'hlt1).toNat * 256) / 4096 % 64) _ _ (sum_lt2 l[k] (l[k + 1]'hlt1)).2.1 (sum2b l[k] (l[k + 1]'hlt1))).mono ?_
          rintro e w1 ⟨rfl, rfl⟩
          go_wp2_with fail
          refine (l2Letter_any ((l[k].toNat * 65536 + (l[k + 1]'hlt1).toNat * 256) / 64 % 64) _ _ (sum_lt2 l[k] (l[k + 1]'hlt1)).2.2.1 (sum2c l[k] (l[k + 1]'hlt1))).mono ?_
          rintro e w1 ⟨rfl, rfl⟩
          go_wp2_with fail
          refine (l2Letter_any ((l[k].toNat * 65536 + (l[k + 1]'hlt1).toNat * 256) % 64) _ _ (sum_lt2 l[k] (l[k + 1]'hlt1)).2.2.2 (sum2d l[k] (l[k + 1]'hlt1))).mono ?_
          rintro e w1 ⟨rfl, rfl⟩
          go_wp2_with (at_builtin; refine append_bytes rfl (.tmp 43) (.tmp 58) rfl w.heap.size _ D.length (D.map bv) rfl (HO.out.alloc _) w1.heap.size [sgn ((l[k].toNat * 65536 + (l[k + 1]'hlt1).toNat * 256) / 262144), sgn ((l[k].toNat * 65536 + (l[k + 1]'hlt1).toNat * 256) / 4096 % 64), sgn ((l[k].toNat * 65536 + (l[k + 1]'hlt1).toNat * 256) / 64 % 64), sgn ((l[k].toNat * 65536 + (l[k + 1]'hlt1).toNat * 256) % 64)] 5 (0, 0) rfl (new_block w1 _) (by simp) (by unfold bigN; omega) (by simp; unfold bigN; omega) (le_alloc HK.out.size _) ?_; intro g2 cap2 w2 hown2 hgrow2; have hown3 : w2.ownsRow w.heap.size 5 1 (.slice (some ⟨g2, 0, none⟩) (D.length + 4) cap2) (D.length + 4) (D.map bv ++ [sgn ((l[k].toNat * 65536 + (l[k + 1]'hlt1).toNat * 256) / 262144), sgn ((l[k].toNat * 65536 + (l[k + 1]'hlt1).toNat * 256) / 4096 % 64), sgn ((l[k].toNat * 65536 + (l[k + 1]'hlt1).toNat * 256) / 64 % 64), sgn ((l[k].toNat * 65536 + (l[k + 1]'hlt1).toNat * 256) % 64)].map bv) := hown2; have HO2 := hid hown3; have HK2 := hid ((HK.out.alloc _).own (HO.out.alloc _) hgrow2 (Nat.le_refl _)); have hg2 := own_ge2 hown3; have hgl := (hown3.lt g2 rfl).2; have hcz := own_cap hown3; have c2 := own_c2 hown3; have c3 := own_c3 hown3; have f2 := hown3.frozenAt (D.length + 2); have f3 := hown3.frozenAt (D.length + 3); clear hown2 hgrow2 hown3)
          go_roundg (l.length + 3 - (k + 3))
          case measure => have := HM.out; omega
          case rel =>
            refine ⟨k + 3, g2, cap2, D ++ four [l[k], l[k + 1]'hlt1], rfl, by go_num, by simp [four], by omega, by simp [four]; omega, ?_, ?_, HK2.out.setCell _ _ (by simp; omega)⟩
            · rw [← HE.out, List.append_assoc]
              congr 1
              have hne : l.drop k ≠ [] := fun e => by have := congrArg List.length e; rw [List.length_drop, List.length_nil] at this; omega
              rw [enc_cons _ hne, List.drop_drop, drop2 H2.out, List.drop_of_length_le (by have := H2.out; omega)]; rfl
            · have := own_s3 HO2.out 61
              rw [four2] at this
              simpa [four] using this
        · have h1 : k + 1 = l.length := by omega
          have h1' : ¬ (k : Int) + 1 < l.length := by omega
          have h2' : ¬ (k : Int) + 2 < l.length := by omega
          have h1'' : (l.length : Int) ≤ k + 1 := by omega
          have h2'' : (l.length : Int) ≤ k + 2 := by omega
          obtain ⟨ga0, ga1⟩ := wrap_bd l[k]
          have wa0 : 0 ≤ wrap64 ((bs l)[k].toNat : Int) := ga0
          have wa1 : wrap64 ((bs l)[k].toNat : Int) < 256 := ga1
          clear ga0 ga1 h3 h2
          have H2 := hid h1
          clear h1
          go_wp2_with fail
          refine (l2Letter_any ((l[k].toNat * 65536) / 262144) _ _ (sum_lt1 l[k]).1 (sum1a l[k])).mono ?_
          rintro e w1 ⟨rfl, rfl⟩
          go_wp2_with fail
          refine (l2Letter_any ((l[k].toNat * 65536) / 4096 % 64) _ _ (sum_lt1 l[k]).2.1 (sum1b l[k])).mono ?_
          rintro e w1 ⟨rfl, rfl⟩
          go_wp2_with fail
          refine (l2Letter_any ((l[k].toNat * 65536) / 64 % 64) _ _ (sum_lt1 l[k]).2.2.1 (sum1c l[k])).mono ?_
          rintro e w1 ⟨rfl, rfl⟩
          go_wp2_with fail
          refine (l2Letter_any ((l[k].toNat * 65536) % 64) _ _ (sum_lt1 l[k]).2.2.2 (sum1d l[k])).mono ?_
          rintro e w1 ⟨rfl, rfl⟩
          go_wp2_with (at_builtin; refine append_bytes rfl (.tmp 43) (.tmp 58) rfl w.heap.size _ D.length (D.map bv) rfl (HO.out.alloc _) w1.heap.size [sgn ((l[k].toNat * 65536) / 262144), sgn ((l[k].toNat * 65536) / 4096 % 64), sgn ((l[k].toNat * 65536) / 64 % 64), sgn ((l[k].toNat * 65536) % 64)] 5 (0, 0) rfl (new_block w1 _) (by simp) (by unfold bigN; omega) (by simp; unfold bigN; omega) (le_alloc HK.out.size _) ?_; intro g2 cap2 w2 hown2 hgrow2; have hown3 : w2.ownsRow w.heap.size 5 1 (.slice (some ⟨g2, 0, none⟩) (D.length + 4) cap2) (D.length + 4) (D.map bv ++ [sgn ((l[k].toNat * 65536) / 262144), sgn ((l[k].toNat * 65536) / 4096 % 64), sgn ((l[k].toNat * 65536) / 64 % 64), sgn ((l[k].toNat * 65536) % 64)].map bv) := hown2; have HO2 := hid hown3; have HK2 := hid ((HK.out.alloc _).own (HO.out.alloc _) hgrow2 (Nat.le_refl _)); have hg2 := own_ge2 hown3; have hgl := (hown3.lt g2 rfl).2; have hcz := own_cap hown3; have c2 := own_c2 hown3; have c3 := own_c3 hown3; have f2 := hown3.frozenAt (D.length + 2); have f3 := hown3.frozenAt (D.length + 3); clear hown2 hgrow2 hown3)
          go_roundg (l.length + 3 - (k + 3))
          case measure => have := HM.out; omega
          case rel =>
            refine ⟨k + 3, g2, cap2, D ++ four [l[k]], rfl, by go_num, by simp [four], by omega, by simp [four]; omega, ?_, ?_, (HK2.out.setCell _ _ (by simp; omega)).setCell _ _ (by simp; omega)⟩
            · rw [← HE.out, List.append_assoc]
              congr 1
              have hne : l.drop k ≠ [] := fun e => by have := congrArg List.length e; rw [List.length_drop, List.length_nil] at this; omega
              rw [enc_cons _ hne, List.drop_drop, drop1 H2.out, List.drop_of_length_le (by have := H2.out; omega)]; rfl
            · have := own_s3 (own_s2 HO2.out 61) 61
              rw [four1] at this
              simpa [four] using this
    · have hd : l.drop k = [] := List.drop_of_length_le (by omega)
      have hD2 : D = enc l := by have := HE.out; rwa [hd, enc_nil, List.append_nil] at this
      have HD2 := hid hD2
      have HCV := hid (fun W h => strBytes W w.heap.size g D.length cap D rfl h)
      clear hd hD2
      go_wp2
      rw [HCV.out _ HO.out]
      simp only [Result.andThen]
      rw [Oper.upon_value]
      go_wp2
      go_ret
      exact ⟨ret_str (by rw [HD2.out]), HK.out⟩
end Go.Proofs.YtahiahboneljaaaGreatDoor
namespace Go.Proofs.YtahiahboneljaaaGreatDoor
open Go.RowKit

theorem sgI_bd (b : UInt8) : ∃ v : Nat, v < 64 ∧ (sgv b).getD 0 = v ∧ max (sgI b) 0 = (v : Int) := by
  cases h : sgv b with
  | none => exact ⟨0, by omega, rfl, by rw [sgI_none h]; rfl⟩
  | some m =>
    have := sgv_lt h
    exact ⟨m, this, rfl, by rw [sgI_some h]; omega⟩
theorem three_cells (N : Nat) (h : N < 16777216) : (#[.int .u8 ((N : Int) / 65536), .int .u8 ((N : Int) / 256 % 256), .int .u8 ((N : Int) % 256)] : Array Value) = ((three N).map bv).toArray := by
  simp [three, bv]; omega
theorem decF_len (t : List UInt8) : (decF t).length ≤ t.length := by
  induction hn : t.length using Nat.strongRecOn generalizing t with
  | _ n ih =>
    by_cases h : 4 ≤ t.length
    · have hlt : (t.drop 4).length < n := by rw [List.length_drop]; omega
      have := ih _ hlt _ rfl
      rw [decF_cons t h, List.length_append]
      rw [List.length_drop] at this
      simp [three]; omega
    · rw [decF_short t (by omega)]; simp

set_option maxRecDepth 100000 in
set_option maxHeartbeats 2000000 in
theorem l2Decode_any (l : List UInt8) (w : World) (hl : l.length ≤ 1000) :
    Calls Tryz.prog 118 #[.string (bs l)] w fun e w' => e = .returned (.string (bs (decF l))) ∧ Kept [] w w' := by
  have HV := hid (fun b w => l2Value_any b w)
  go_enter Tryz.func118, Tryz.ntmps118
  go_wp2
  go_loopg [3, 4] (l.length + 4) (fun m v i wr => ∃ (k g cap : Nat) (D : List UInt8), m = l.length + 4 - k ∧ i = .int .i64 k ∧ v = .slice (some ⟨g, 0, none⟩) D.length cap ∧ k ≤ l.length + 4 ∧ D.length ≤ k ∧ D ++ decF (l.drop k) = decF l ∧
      wr.ownsRow w.heap.size 5 1 (.slice (some ⟨g, 0, none⟩) D.length cap) D.length (D.map bv) ∧ Kept [] w wr)
  case atStart =>
    exact ⟨0, w.heap.size, 0, [], rfl, rfl, rfl, by omega, by simp, by simp, World.ownsRow_lit w #[] 0 (Nat.le_refl _) (by unfold maxLen; omega) rfl, (Kept.refl _ _).alloc _⟩
  case round =>
    obtain ⟨k, g, cap, D, hm, rfl, rfl, hk, hD, henc, hown, hK⟩ := hrel
    have HM := hid hm
    have HE := hid henc
    have HK := hid hK
    have HO := hid hown
    clear hm henc hK hown
    by_cases hlt : k + 4 ≤ l.length
    · have hlt' : (k : Int) + 4 ≤ l.length := by omega
      go_wp2
      go_loop [5, 6] (fun t c => ∃ j : Nat, j ≤ 4 ∧ c = .int .i64 ((k : Int) + j) ∧ t = .int .i64 (sgnN 0 ((l.drop k).take j))) (fun _ c => (k : Int) + 4 - (intOf c) |>.toNat)
      case atStart => exact ⟨0, by omega, by simp, rfl⟩
      case round =>
        obtain ⟨j, hj, rfl, rfl⟩ := hrel
        have hbd := sgnN_bd ((l.drop k).take j) (by rw [List.length_take]; omega)
        by_cases hj4 : j < 4
        · have hkj : k + j < l.length := by omega
          have hkj' : (k : Int) + j < l.length := by omega
          have hkj2 : (k : Int) + j < k + 4 := by omega
          obtain ⟨v, hv64, hv1, hv2⟩ := sgI_bd l[k + j]
          have HE2 := hid (show sgnN 0 ((l.drop k).take (j + 1)) = sgnN 0 ((l.drop k).take j) * 64 + v by
            rw [List.take_succ_eq_append_getElem (by rw [List.length_drop]; omega), sgnN_snoc, List.getElem_drop, hv1])
          generalize hB : sgnN 0 ((l.drop k).take j) = B at hbd
          have HB := hid hB
          clear hB hv1
          go_wp2_with fail
          refine (HV.out l[k + j] _).mono ?_
          rintro e w1 ⟨rfl, rfl⟩
          go_wp2
          go_round
          case rel =>
            refine ⟨j + 1, by omega, int_eq (by omega), int_eq ?_⟩
            rw [HE2.out, HB.out]; omega
          case measure => simp [intOf]; omega
        · obtain rfl : j = 4 := by omega
          have hkj2 : ¬ (k : Int) + 4 < k + 4 := by omega
          have HE2 := hid (decF_cons (l.drop k) (by rw [List.length_drop]; omega))
          generalize hB : sgnN 0 ((l.drop k).take 4) = N at hbd HE2
          have HT := hid (three_cells N hbd)
          clear hB hj4
          go_wp2_with (at_builtin; refine append_bytes rfl (.tmp 30) (.tmp 41) rfl w.heap.size _ D.length (D.map bv) rfl (HO.out.alloc _) wr.heap.size (three N) 5 (0, 0) rfl (by rw [← HT.out]; exact new_block wr _) (by simp [three]) (by unfold bigN; omega) (by simp [three]; unfold bigN; omega) (le_alloc HK.out.size _) ?_; intro g2 cap2 w2 hown2 hgrow2; have hown3 : w2.ownsRow w.heap.size 5 1 (.slice (some ⟨g2, 0, none⟩) (D.length + 3) cap2) (D.length + 3) (D.map bv ++ (three N).map bv) := hown2; have HO2 := hid hown3; have HK2 := hid ((HK.out.alloc _).own (HO.out.alloc _) hgrow2 (Nat.le_refl _)); clear hown2 hgrow2 hown3)
          go_roundg (l.length + 4 - (k + 4))
          case measure => have := HM.out; omega
          case rel =>
            refine ⟨k + 4, g2, cap2, D ++ three N, rfl, by go_num, by simp [three], by omega, by simp [three]; omega, ?_, ?_, HK2.out⟩
            · rw [← HE.out, HE2.out, List.append_assoc, List.drop_drop]
            · have := HO2.out
              simpa [three] using this
    · have hlt' : ¬ (k : Int) + 4 ≤ l.length := by omega
      have hd : decF (l.drop k) = [] := decF_short _ (by rw [List.length_drop]; omega)
      have hD2 : D = decF l := by have := HE.out; rwa [hd, List.append_nil] at this
      have HD2 := hid hD2
      have HCV := hid (fun W h => strBytes W w.heap.size g D.length cap D rfl h)
      clear hd hD2
      go_wp2
      rw [HCV.out _ HO.out]
      simp only [Result.andThen]
      rw [Oper.upon_value]
      go_wp2
      go_ret
      exact ⟨ret_str (by rw [HD2.out]), HK.out⟩
end Go.Proofs.YtahiahboneljaaaGreatDoor
namespace Go.Proofs.YtahiahboneljaaaGreatDoor
open Go.RowKit

theorem cut_end (a : List UInt8) (k : Nat) : (bs a).extract 0 (a.length - k) = bs (a.take (a.length - k)) := by
  rw [extract_bs, bs_toList, List.drop_zero, Nat.sub_zero]

set_option maxRecDepth 100000 in
set_option maxHeartbeats 2000000 in
theorem sDecode_any (l : List UInt8) (w : World) (hl : l.length ≤ bigN) :
    Calls Tryz.prog 106 #[.string (bs l)] w fun e w' => e = .returned (decRes (dec l)) ∧ Kept [] w w' := by
  have hl' := Nat.le_trans hl bigN_le
  unfold maxLen at hl'
  by_cases h40 : 40 < l.length
  · have h40' : (40 : Int) < l.length := by omega
    have HR := hid (dec_long (.inl h40))
    go_enter Tryz.func106, Tryz.ntmps106
    go_wp2
    go_ret2
    exact ⟨by rw [HR.out]; rfl, Kept.refl _ _⟩
  · have h40' : ¬ (40 : Int) < l.length := by omega
    by_cases hm : l.length % 4 = 0
    · have hm' : ((l.length : Int) % 4 == 0) = true := by rw [beq_iff_eq]; omega
      have hm'' : ((l.length : Int) % 4 != 0) = false := by simp; omega
      have hal := decF_len l
      generalize hA : decF l = all at hal
      have HA := hid hA
      have HM := hid (dec_miss (t := l))
      rw [hA] at HM
      have HD := hid (l2Decode_any l w (by omega))
      rw [hA] at HD
      clear hA hm
      go_enter Tryz.func106, Tryz.ntmps106
      go_wp2_with fail
      refine HD.out.mono ?_
      rintro e w1 ⟨rfl, hK1⟩
      have HK1 := hid hK1
      clear hK1
      go_wp2
      go_loopw [5] (fun c wr => ∃ k : Nat, k ≤ 3 ∧ c = .int .i64 k ∧ (∀ j, j < k → j ≤ all.length → enc (all.take (all.length - j)) ≠ l) ∧ Kept [] w wr) (fun c _ => 3 - (intOf c).toNat)
      case atStart => exact ⟨0, by omega, rfl, fun j hj => by omega, HK1.out⟩
      case round =>
        obtain ⟨k, hk, rfl, hno, hK⟩ := hrel
        have HN := hid hno
        have HK := hid hK
        clear hno hK
        by_cases hin : k ≤ 2 ∧ k ≤ all.length
        · obtain ⟨h2, h3⟩ := hin
          have h2' : (k : Int) ≤ 2 := by omega
          have h3' : (k : Int) ≤ all.length := by omega
          have h4 : (0 : Int) ≤ (all.length : Int) - k := by omega
          have hx : (bs all).extract 0 ((all.length : Int) - k).toNat = bs (all.take (all.length - k)) := by
            rw [show ((all.length : Int) - k).toNat = all.length - k by omega]; exact cut_end all k
          have hx2 := cut_end all k
          have hne := str_ne (enc (all.take (all.length - k))) l
          by_cases heq : enc (all.take (all.length - k)) = l
          · rw [decide_eq_true heq] at hne
            have HR := hid (dec_hit heq (by omega))
            clear heq
            go_wp2_with fail
            refine (l2Encode_any (all.take (all.length - k)) _ (by rw [List.length_take]; omega)).mono ?_
            rintro e w2 ⟨rfl, hK2⟩
            go_wp2
            go_ret2
            exact ⟨by rw [HR.out]; rfl, HK.out.trans hK2⟩
          · rw [decide_eq_false heq] at hne
            have HQ := hid heq
            clear heq
            go_wp2_with fail
            refine (l2Encode_any (all.take (all.length - k)) _ (by rw [List.length_take]; omega)).mono ?_
            rintro e w2 ⟨rfl, hK2⟩
            have HK2 := hid (HK.out.trans hK2)
            clear hK2
            go_wp2
            go_roundw
            case rel =>
              refine ⟨k + 1, by omega, by go_num, fun j hj hja => ?_, HK2.out⟩
              by_cases e : j = k
              · rw [e]; exact HQ.out
              · exact HN.out j (by omega) hja
            case measure => simp [intOf]; omega
        · have HR : Hid (dec l = none) := HM.out (fun j hj hja => HN.out j (by omega) hja)
          by_cases h2 : k ≤ 2
          · have h2' : (k : Int) ≤ 2 := by omega
            have h3' : ¬ (k : Int) ≤ all.length := by omega
            clear hin
            go_wp2
            go_ret2
            exact ⟨by rw [HR.out]; rfl, HK.out⟩
          · have h2' : ¬ (k : Int) ≤ 2 := by omega
            clear hin
            go_wp2
            go_ret2
            exact ⟨by rw [HR.out]; rfl, HK.out⟩
    · have hm' : ((l.length : Int) % 4 == 0) = false := by rw [beq_eq_false_iff_ne]; omega
      have hm'' : ((l.length : Int) % 4 != 0) = true := by simp; omega
      have HR := hid (dec_long (.inr hm))
      clear hm
      go_enter Tryz.func106, Tryz.ntmps106
      go_wp2
      go_ret2
      exact ⟨by rw [HR.out]; rfl, Kept.refl _ _⟩
end Go.Proofs.YtahiahboneljaaaGreatDoor
namespace Go.Proofs.YtahiahboneljaaaGreatDoor
open Go.RowKit

theorem sPlainMake_any (u p : List UInt8) (w : World) (hu : u.length ≤ bigN) (hp : p.length ≤ bigN) :
    Calls Tryz.prog 38 #[.string (bs u), .string (bs p)] w fun e w' => e = .returned (.string (bs (makeP u p))) ∧ Kept [] w w' := by
  cases h1 : isName u with
  | false =>
    have HR := hid (show makeP u p = [] by unfold makeP; rw [if_neg (by rw [h1]; simp)])
    go_enter Tryz.func38, Tryz.ntmps38
    go_wp2_with fail
    refine (sName_bs u _ hu).mono ?_
    rintro e w1 ⟨rfl, rfl⟩
    rw [h1]
    go_wp2
    go_ret
    exact ⟨ret_str (by rw [HR.out]; rfl), Kept.refl _ _⟩
  | true =>
    cases h2 : isName p with
    | false =>
      have HR := hid (show makeP u p = [] by unfold makeP; rw [if_neg (by rw [h2]; simp)])
      go_enter Tryz.func38, Tryz.ntmps38
      go_wp2_with fail
      refine (sName_bs u _ hu).mono ?_
      rintro e w1 ⟨rfl, rfl⟩
      rw [h1]
      go_wp2_with fail
      refine (sName_bs p _ hp).mono ?_
      rintro e w2 ⟨rfl, rfl⟩
      rw [h2]
      go_wp2
      go_ret
      exact ⟨ret_str (by rw [HR.out]; rfl), Kept.refl _ _⟩
    | true =>
      have hlu := isName_len h1
      have hlp := isName_len h2
      have HR := hid (show makeP u p = enc (0 :: (u ++ 0 :: p)) by unfold makeP; rw [if_pos ⟨h1, h2⟩])
      have HP := hid (plain_bs u p)
      have hl : (0 :: (u ++ 0 :: p)).length ≤ 18 := by simp; omega
      go_enter Tryz.func38, Tryz.ntmps38
      go_wp2_with fail
      refine (sName_bs u _ hu).mono ?_
      rintro e w1 ⟨rfl, rfl⟩
      rw [h1]
      go_wp2_with fail
      refine (sName_bs p _ hp).mono ?_
      rintro e w2 ⟨rfl, rfl⟩
      rw [h2]
      go_wp2_with fail
      rw [HP.out]
      refine (l2Encode_any (0 :: (u ++ 0 :: p)) _ (by omega)).mono ?_
      rintro e w3 ⟨rfl, hK3⟩
      go_wp2
      go_ret
      exact ⟨ret_str (by rw [HR.out]), hK3⟩

theorem l1Cut0_any (s : List UInt8) (w : World) (hs : s.length ≤ bigN) :
    Calls Tryz.prog 54 #[.string (bs s), .int .u8 0] w fun e w' => ∃ v, e = .returned v ∧ w'.ownsRow w.heap.size 9 1 v (cutB 0 s).length ((cutB 0 s).map sv) ∧ Kept [] w w' := by
  have := l1Cut_any (bs s) 0 0 rfl w (by rw [bs_size]; exact hs)
  rwa [bs_toList] at this

theorem parseP_len {s : List UInt8} (h : (cutB 0 s).length ≠ 3) : parseP s = none := by
  unfold parseP
  split
  · next e u p heq => rw [heq] at h; exact absurd rfl h
  · rfl
theorem parseP_three {s e u p : List UInt8} (h : cutB 0 s = [e, u, p]) : parseP s = if e = [] ∧ isName u = true ∧ isName p = true then some (u, p) else none := by
  unfold parseP; rw [h]

set_option maxHeartbeats 2000000 in
theorem sPlainParse_any (t : List UInt8) (w : World) (ht : t.length ≤ bigN) :
    Calls Tryz.prog 93 #[.string (bs t)] w fun e w' => e = .returned (ppRes (plainP t)) ∧ Kept [] w w' := by
  cases hd : dec t with
  | none =>
    have HR := hid (show plainP t = none by unfold plainP; rw [hd]; rfl)
    have HC := hid (fun w => l1Cut0_any [] w (Nat.zero_le _))
    go_enter Tryz.func93, Tryz.ntmps93
    go_wp2_with fail
    refine (sDecode_any t _ ht).mono ?_
    rintro e w1 ⟨rfl, hK1⟩
    rw [hd, show decRes none = .tuple #[.string (bs []), .bool false] from rfl]
    have HK1 := hid hK1
    clear hK1
    go_wp2_with fail
    refine (HC.out _).mono ?_
    rintro e w2 ⟨v, rfl, hown, hK2⟩
    obtain ⟨g, cap, rfl, -⟩ := own_strs hown (by decide)
    have HK2 := hid (HK1.out.trans hK2)
    clear hown hK2
    go_wp2
    go_ret3
    exact ⟨by rw [HR.out]; rfl, HK2.out⟩
  | some s =>
    have hsl := dec_len hd
    have HR := hid (show plainP t = parseP s by unfold plainP; rw [hd]; rfl)
    have HC := hid (fun w => l1Cut0_any s w (by unfold bigN; omega))
    have hpos := cutB_pos 0 s
    have hcl := cutB_len 0 s
    have hpart := cutB_part 0 s
    by_cases h3 : (cutB 0 s).length = 3
    · obtain ⟨pe, u, p, hL⟩ : ∃ e u p, cutB 0 s = [e, u, p] := by
        match hc : cutB 0 s, h3 with
        | [e, u, p], _ => exact ⟨e, u, p, rfl⟩
      have hpy := parseP_three hL
      have hul : u.length ≤ bigN := by have := hpart u (by rw [hL]; simp); unfold bigN; omega
      have hpl : p.length ≤ bigN := by have := hpart p (by rw [hL]; simp); unfold bigN; omega
      rw [hL] at HC
      have HPY := hid hpy
      have HD := hid hd
      have ee := empty_bs pe
      clear hpy hL h3 hpart hpos hcl hd
      go_enter Tryz.func93, Tryz.ntmps93
      go_wp2_with fail
      refine (sDecode_any t _ ht).mono ?_
      rintro e w1 ⟨rfl, hK1⟩
      rw [HD.out, show decRes (some s) = .tuple #[.string (bs s), .bool true] from rfl]
      have HK1 := hid hK1
      clear hK1
      go_wp2_with fail
      refine (HC.out _).mono ?_
      rintro e w2 ⟨v, rfl, hown, hK2⟩
      obtain ⟨g, cap, rfl, -, hgl, hcells⟩ := own_strs (L := [pe, u, p]) hown (by simp)
      have c0 := hcells 0 (by simp)
      have c1 := hcells 1 (by simp)
      have c2 := hcells 2 (by simp)
      simp at c0 c1 c2
      have HK2 := hid (HK1.out.trans hK2)
      clear hown hK2 hcells
      by_cases he : pe = []
      · rw [decide_eq_true he] at ee
        cases h1 : isName u with
        | false =>
          have HQ := hid (HR.out.trans (HPY.out.trans (if_neg (by rw [h1]; simp))))
          clear he
          go_wp2_with fail
          refine (sName_bs u _ hul).mono ?_
          rintro e w3 ⟨rfl, rfl⟩
          rw [h1]
          go_wp2
          go_ret3
          exact ⟨by rw [HQ.out]; rfl, HK2.out⟩
        | true =>
          cases h2 : isName p with
          | false =>
            have HQ := hid (HR.out.trans (HPY.out.trans (if_neg (by rw [h2]; simp))))
            clear he
            go_wp2_with fail
            refine (sName_bs u _ hul).mono ?_
            rintro e w3 ⟨rfl, rfl⟩
            rw [h1]
            go_wp2_with fail
            refine (sName_bs p _ hpl).mono ?_
            rintro e w3 ⟨rfl, rfl⟩
            rw [h2]
            go_wp2
            go_ret3
            exact ⟨by rw [HQ.out]; rfl, HK2.out⟩
          | true =>
            have HQ := hid (HR.out.trans (HPY.out.trans (if_pos ⟨he, h1, h2⟩)))
            clear he
            go_wp2_with fail
            refine (sName_bs u _ hul).mono ?_
            rintro e w3 ⟨rfl, rfl⟩
            rw [h1]
            go_wp2_with fail
            refine (sName_bs p _ hpl).mono ?_
            rintro e w3 ⟨rfl, rfl⟩
            rw [h2]
            go_wp2
            go_quiet (fail)
            go_wp2
            go_ret3
            exact ⟨by rw [HQ.out]; rfl, HK2.out.drewN _⟩
      · rw [decide_eq_false he] at ee
        have HQ := hid (HR.out.trans (HPY.out.trans (if_neg (fun h => he h.1))))
        clear he
        go_wp2
        go_ret3
        exact ⟨by rw [HQ.out]; rfl, HK2.out⟩
    · have HQ := hid (HR.out.trans (parseP_len h3))
      have h3' : (((cutB 0 s).length : Int) == 3) = false := by rw [beq_eq_false_iff_ne]; omega
      have h3'' : (((cutB 0 s).length : Int) != 3) = true := by simp; omega
      generalize cutB 0 s = L at HC hpos h3' h3''
      have HD := hid hd
      clear h3 hcl hpart hd
      go_enter Tryz.func93, Tryz.ntmps93
      go_wp2_with fail
      refine (sDecode_any t _ ht).mono ?_
      rintro e w1 ⟨rfl, hK1⟩
      rw [HD.out, show decRes (some s) = .tuple #[.string (bs s), .bool true] from rfl]
      have HK1 := hid hK1
      clear hK1
      go_wp2_with fail
      refine (HC.out _).mono ?_
      rintro e w2 ⟨v, rfl, hown, hK2⟩
      obtain ⟨g, cap, rfl, -⟩ := own_strs hown hpos
      have HK2 := hid (HK1.out.trans hK2)
      clear hown hK2
      go_wp2
      go_ret3
      exact ⟨by rw [HQ.out]; rfl, HK2.out⟩

theorem sUsersPlain_any (uv : Value) (us : List Usr) (t : List UInt8) (w : World) (hu : UsersAt 0 w uv us) (ht : t.length ≤ bigN) :
    Calls Tryz.prog 76 #[uv, .string (bs t)] w fun e w' => e = .returned (upRes (plainU us t)) ∧ Kept [] w w' := by
  have HU := hid hu
  clear hu
  cases hp : plainP t with
  | none =>
    have HR := hid (plainU_none (us := us) hp)
    go_enter Tryz.func76, Tryz.ntmps76
    go_wp2_with fail
    refine (sPlainParse_any t _ ht).mono ?_
    rintro e w1 ⟨rfl, hK1⟩
    rw [hp, show ppRes none = .tuple #[.string ⟨#[]⟩, .string ⟨#[]⟩, .bool false] from rfl]
    go_wp2
    go_ret2
    exact ⟨by rw [HR.out]; rfl, hK1⟩
  | some x =>
    obtain ⟨u, p⟩ := x
    have hr := plainU_some (us := us) hp
    have HHAS := hid (fun w h => sUsersProve_any 0 uv us (bs u) (bs p) w h)
    rw [bs_toList, bs_toList, usrHas_eq] at HHAS
    cases hh : usrProve us u p with
    | false =>
      rw [hh] at hr HHAS
      have HR := hid hr
      clear hr hh
      go_enter Tryz.func76, Tryz.ntmps76
      go_wp2_with fail
      refine (sPlainParse_any t _ ht).mono ?_
      rintro e w1 ⟨rfl, hK1⟩
      rw [hp, show ppRes (some (u, p)) = .tuple #[.string (bs u), .string (bs p), .bool true] from rfl]
      go_wp2_with fail
      refine (HHAS.out _ (HU.out.kept0 hK1)).mono ?_
      rintro e w2 ⟨rfl, hK2⟩
      go_wp2
      go_ret2
      exact ⟨by rw [HR.out]; rfl, hK1.trans hK2⟩
    | true =>
      rw [hh] at hr HHAS
      have HR := hid hr
      clear hr hh
      go_enter Tryz.func76, Tryz.ntmps76
      go_wp2_with fail
      refine (sPlainParse_any t _ ht).mono ?_
      rintro e w1 ⟨rfl, hK1⟩
      rw [hp, show ppRes (some (u, p)) = .tuple #[.string (bs u), .string (bs p), .bool true] from rfl]
      go_wp2_with fail
      refine (HHAS.out _ (HU.out.kept0 hK1)).mono ?_
      rintro e w2 ⟨rfl, hK2⟩
      go_wp2
      go_ret2
      exact ⟨by rw [HR.out]; rfl, hK1.trans hK2⟩
end Go.Proofs.YtahiahboneljaaaGreatDoor
