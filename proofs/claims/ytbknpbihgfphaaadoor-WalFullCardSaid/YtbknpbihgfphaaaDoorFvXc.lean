/- law16: WalFull, plain: a log of a great epoch. -/
import Derived.Test.YtbknpbihgfphaaaDoorFvXb
set_option linter.unusedSimpArgs false
set_option linter.unusedVariables false
namespace Go.Proofs.YtbknpbihgfphaaaDoor
open Go Go.RowKit Go.Own
def epF (less : Nat) : Nat := 4294967295 - less % 3
theorem epF_lt (less : Nat) : epF less < 2 ^ 32 := by unfold epF; omega
theorem epF_or (less : Nat) : epF less = 4294967295 ∨ epF less = 4294967294 ∨ epF less = 4294967293 := by unfold epF; omega
/-- the disk behind the first i pages -/
def fullD (E : Nat) : Nat → DM
  | 0 => fmtD 0
  | i + 1 => wr1 (fullD E i) (2 + i) (pageB E i z640)
def fullE (E : Nat) : DM := wr1 (fullD E 16) (E % 2) (headB E 0)
theorem pageB_len (E i : Nat) (hi : i < 16) : (pageB E i z640).length = 64 := secW_len (by rw [List.length_append, getP_len (ps := z640) List.length_replicate hi]; simp)
theorem full_aw1 : openM (fullE 4294967295) ((0 : Nat), 52) = (some ⟨4294967295, 0, 0, z640, false⟩, 0) := by decide +kernel
theorem full_aw2 : openM (fullE 4294967294) ((0 : Nat), 52) = (some ⟨4294967294, 0, 0, z640, false⟩, 0) := by decide +kernel
theorem full_aw3 : openM (fullE 4294967293) ((0 : Nat), 52) = (some ⟨4294967293, 0, 0, z640, false⟩, 0) := by decide +kernel
theorem full_aw (less : Nat) : openM (fullE (epF less)) ((0 : Nat), 52) = (some ⟨epF less, 0, 0, z640, false⟩, 0) := by
  rcases epF_or less with h | h | h <;> rw [h]
  · exact full_aw1
  · exact full_aw2
  · exact full_aw3
theorem fullD_free (E : Nat) : ∀ i, Fr0 60 (fullD E i)
  | 0 => (fmt_free (f := 0) (by decide)).2
  | i + 1 => (fullD_free E i).wr1 _ _
theorem fullE_free (E : Nat) : Fr0 60 (fullE E) := (fullD_free E 16).wr1 _ _
theorem fullD_out (E : Nat) {k : Nat} (hk : k < 60) (ho : 52 ≤ k) : ∀ i, i ≤ 16 → (fullD E i).cur k = List.replicate 64 0
  | 0, _ => (goodf (f := 0) (by decide)).out k hk (.inr (by omega))
  | i + 1, hi => by
    rw [fullD, wr1_curW, if_neg (by omega)]
    exact fullD_out E hk ho i (by omega)
theorem good_full (less : Nat) : GoodW 0 (fullE (epF less)) ⟨epF less, 0, 0, z640, false⟩ :=
  ⟨fullE_free _, fun k hk ho => by
    unfold fullE
    rw [wr1_curW, if_neg (by omega)]
    exact fullD_out _ hk (by omega) 16 (Nat.le_refl _), epF_lt less, Nat.zero_le _, Nat.zero_le _, List.length_replicate, rfl⟩
theorem fullD_pend (E : Nat) : ∀ i, (fullD E i).pend.length ≤ 100 + i
  | 0 => fmt_pend 0
  | i + 1 => by
    have := fullD_pend E i
    rw [fullD, wr1]
    simp only [List.length_append, List.length_cons, List.length_nil]; omega
theorem fullE_pend (E : Nat) : (fullE E).pend.length ≤ 117 := by
  have := fullD_pend E 16
  rw [fullE, wr1]
  simp only [List.length_append, List.length_cons, List.length_nil]; omega
theorem zpage (i : Nat) (hi : i < 16) : getP z640 i = List.replicate 40 0 := by
  unfold getP z640
  rw [List.drop_replicate, List.take_replicate]
  congr 1; omega
end Go.Proofs.YtbknpbihgfphaaaDoor
