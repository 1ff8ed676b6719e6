/- What parsing a key tells, for the laws. -/
import Derived.Test.YtoleonldkifcbaaGreatDoorKDc
import Derived.Test.YtoleonldkifcbaaGreatDoorKKg
import Derived.Test.YtoleonldkifcbaaGreatDoorKMb
import Derived.Test.YtoleonldkifcbaaGreatDoorKP
namespace Go.Proofs.YtoleonldkifcbaaGreatDoor
open Go.RowKit

theorem keyI_fmtV (k : Ky) (h : fmtV k ≠ []) : keyI (fmtV k) = some k := by
  unfold fmtV at h ⊢
  by_cases hv : validK k = true
  · rw [if_pos hv]; exact keyI_fmt hv
  · rw [if_neg hv] at h; exact absurd rfl h
theorem fmtV_of {t : List UInt8} {k : Ky} (h : keyI t = some k) : fmtV k = t := by
  obtain ⟨h1, h2⟩ := keyI_some h
  unfold fmtV; rw [if_pos h1]; exact h2
/-- A key that was read, or none. -/
def PRes (K : Ky) (b : Bool) (w : World) (e : Ending) (w' : World) : Prop :=
  ∃ s1 s2 s3 t1 t2 t3, e = .returned (.tuple #[.agg #[.int .i64 K.kind, .int .i64 K.flag, .string (bs K.text), .slice s1 s2 s3, .slice t1 t2 t3], .bool b]) ∧ Kept [] w w' ∧
    KeyX w.heap.size w'.heap.size w' K (.slice s1 s2 s3) (.slice t1 t2 t3)
theorem parse_res {o : Option Ky} {K : Ky} {b : Bool} {w w' : World} {e : Ending} (h : ParseRes o w e w') (hK : o.getD kyNone = K) (hb : o.isSome = b) : PRes K b w e w' := by
  subst hK hb; exact h
theorem parse_none {o : Option Ky} {w w' : World} {e : Ending} (h : ParseRes o w e w') (ho : o = none) : PRes kyNone false w e w' := by
  subst ho; exact h
/-- Few marks are laid. -/
theorem few_marks (t : List UInt8) (K : Ky) (h : (keyI t).getD kyNone = K) : 1 + 2 * K.set.length + cntL K.keys ≤ 900000 := by
  have h1 : cntK K ≤ 200 := by
    cases hk : keyI t with
    | none => rw [hk] at h; subst h; decide
    | some k =>
      rw [hk] at h
      have h : k = K := h
      subst h
      obtain ⟨h1, h2⟩ := keyI_some hk
      obtain ⟨h3, h4⟩ := validK_all h1
      have := cntK_le k h3; omega
  have := cntK_parts K
  omega
end Go.Proofs.YtoleonldkifcbaaGreatDoor
