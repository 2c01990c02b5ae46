/- Squeezed copy of the texts Tu Tz Tzw Tzx Tzy Oc Ks. -/
import Derived.Test.YtgilmcpdpggikaaGreatDoorCTx3
import Derived.Test.YtgilmcpdpggikaaGreatDoorCK4
import Derived.Test.YtgilmcpdpggikaaGreatDoorCTy
import Derived.Test.YtgilmcpdpggikaaGreatDoorCK9
set_option maxRecDepth 100000
set_option maxHeartbeats 1000000
set_option linter.unusedSimpArgs false
set_option linter.unusedVariables false
namespace Go.Proofs.YtgilmcpdpggikaaGreatDoor
open Go Go.RowKit Go.Own
theorem it_same {t t' : TR} {S : Nat → Prop} (hc : ∀ j, S j → j ≠ 0 → S (up t j)) (ha : ∀ j, S j → j ≠ 0 → up t' j = up t j) (h0 : up t 0 = 0) (h0' : up t' 0 = 0) : ∀ (f j : Nat), S j → it t f j = 0 → it t' f j = 0
 | 0, j, _, h => h
 | f + 1, j, hs, h => by
  by_cases hj : j = 0
  ·subst hj; exact it_zero h0' _
  ·rw [it] at h ⊢
   rw [ha j hs hj]
   exact it_same hc ha h0 h0' f _ (hc j hs hj) h
theorem kind_of_good {t : TR} (h : WF t) {i : Nat} (hi : i < 8) (hk : (t.n i).kind = 0) : 1 ≤ i ∧ t.n i = Nd.zero := by
 by_cases h0 : i = 0
 ·subst h0; rw [h.root] at hk; exact absurd hk (by decide)
 ·refine ⟨by omega, ?_⟩
  rcases h.nd i (by omega) hi with hz | hg
  ·exact hz
  ·have := hg.sh
   unfold Shaped at this
   omega
theorem nz_kind {t : TR} (h : WF t) {i : Nat} (hi : i < 8) (hn : t.n i ≠ Nd.zero) : (t.n i).kind ≠ 0 := fun hk => hn (kind_of_good h hi hk).2
theorem kind_nz {t : TR} {i : Nat} (hk : (t.n i).kind ≠ 0) : t.n i ≠ Nd.zero := fun e => hk (by rw [e]; rfl)
theorem WF.alive_up {t : TR} (h : WF t) {i : Nat} (hi : i < 8) (h0 : i ≠ 0) (hn : t.n i ≠ Nd.zero) : (t.n (up t i)).kind = 1 :=
 ((h.nd i (by omega) hi).resolve_left hn).dir
theorem bf_same {t t' : TR} (hc : ∀ p, p < 16 → (clAt t' p).1 = (clAt t p).1 ∧ ((clAt t p).1 ≠ 0 → (clAt t' p).2 = (clAt t p).2)) (hb : ∀ k, k < 8 → t'.b k = t.b k) (h : BF t) : BF t' := by
 refine ⟨fun p q hp hq hne h1 => ?_, fun k q hk hq hl => ?_⟩
 ·rw [(hc p hp).1] at h1 ⊢
  rw [(hc q hq).1]
  exact h.one p q hp hq hne h1
 ·rw [hb k hk]
  refine h.nought k q hk hq (fun p hp he => ?_)
  rw [← (hc p hp).2 (by omega)]
  exact hl p hp (by rw [(hc p hp).1]; exact he)
theorem clAt_set {t : TR} (ht : t.Ok) {i : Nat} (hi : i < 8) {x : Nd} (h0 : x.b0 = (t.n i).b0) (h1 : x.b1 = (t.n i).b1) (hs : (t.n i).b0 ≠ 0 ∨ (t.n i).b1 ≠ 0 → x.size = (t.n i).size) : ∀ p, p < 16 → (clAt (t.set i x) p).1 = (clAt t p).1 ∧ ((clAt t p).1 ≠ 0 → (clAt (t.set i x) p).2 = (clAt t p).2) := by
 intro p hp
 unfold clAt
 by_cases e : i = p / 2
 ·have hn : (t.set i x).n (p / 2) = x := by rw [TR.n_set ht hi, if_pos e]
  rw [hn, ← e]
  split
  ·exact ⟨h0, fun hne => by dsimp only at hne ⊢; rw [hs (.inl hne)]⟩
  ·exact ⟨h1, fun hne => by dsimp only at hne ⊢; rw [hs (.inr hne)]⟩
 ·have hn : (t.set i x).n (p / 2) = t.n (p / 2) := by rw [TR.n_set ht hi, if_neg e]
  rw [hn]
  exact ⟨rfl, fun _ => rfl⟩
theorem childM_none {t : TR} {d : Int} {nm : Str} (h : childM t d nm < 0) : ∀ j : Nat, 1 ≤ j → j < 8 → ¬ ((t.n j).kind ≠ 0 ∧ (t.n j).parent = d ∧ (t.n j).name = nm) := by
 have key : ∀ (f i : Nat), childFrom t d nm f i < 0 → ∀ j, i ≤ j → j < i + f → ¬ ((t.n j).kind ≠ 0 ∧ (t.n j).parent = d ∧ (t.n j).name = nm) := by
  intro f
  induction f with
  | zero => intro i _ j h1 h2; omega
  | succ f ih =>
   intro i h j h1 h2
   rw [childFrom] at h
   split at h
   ·omega
   ·rename_i hn
    by_cases e : j = i
    ·subst e; exact hn
    ·exact ih (i + 1) h j (by omega) (by omega)
 exact fun j h1 h2 => key 7 1 h j h1 (by omega)
theorem freeFrom_some {t : TR} : ∀ {f i k : Nat}, freeFrom t f i = some k → i ≤ k ∧ k < i + f ∧ (t.n k).kind = 0
 | 0, i, k, h => by cases h
 | f + 1, i, k, h => by
  rw [freeFrom] at h
  split at h
  ·rename_i hk
   cases h
   exact ⟨Nat.le_refl _, by omega, hk⟩
  ·have := freeFrom_some h
   omega
theorem wf_make {t : TR} (h : WF t) {i d : Nat} {k : Int} {nm : Str} (hi1 : 1 ≤ i) (hi : i < 8) (hz : t.n i = Nd.zero) (hk : k = 1 ∨ k = 2) (hd : d < 8) (hdk : (t.n d).kind = 1) (hnm : isNameM nm = true) (hch : childM t (d : Int) nm < 0) : WF (t.set i ⟨k, (d : Int), nm, 0, 0, 0⟩) := by
 have hn : ∀ j, (t.set i ⟨k, (d : Int), nm, 0, 0, 0⟩).n j = if i = j then ⟨k, (d : Int), nm, 0, 0, 0⟩ else t.n j := fun j => TR.n_set h.ok hi _ j
 have hdi : i ≠ d := fun e => by rw [← e, hz] at hdk; exact absurd hdk (by decide)
 have h0 := up_root h.root
 have hr : (t.set i ⟨k, (d : Int), nm, 0, 0, 0⟩).n 0 = Nd.root := by rw [hn, if_neg (by omega), h.root]
 have h0' := up_root hr
 have hsame := it_same (t := t) (t' := t.set i ⟨k, (d : Int), nm, 0, 0, 0⟩) (S := fun j => j < 8 ∧ t.n j ≠ Nd.zero)
  (fun j hj hj0 => ⟨h.up8 j hj.1, kind_nz (by rw [h.alive_up hj.1 hj0 hj.2]; decide)⟩)
  (fun j hj hj0 => by
   have : i ≠ j := fun e => hj.2 (by rw [← e, hz])
   unfold up; rw [hn, if_neg this]) h0 h0'
 have hrd : ∀ j, j < 8 → t.n j ≠ Nd.zero → ∃ f, it (t.set i ⟨k, (d : Int), nm, 0, 0, 0⟩) f j = 0 := by
  intro j hj hnz
  by_cases hj0 : j = 0
  ·subst hj0; exact ⟨0, rfl⟩
  ·obtain ⟨f, hf⟩ := ((h.nd j (by omega) hj).resolve_left hnz).rt
   exact ⟨f, hsame f j ⟨hj, hnz⟩ hf⟩
 refine ⟨TR.ok_set h.ok _ _, hr, fun j hj1 hj => ?_, ?_, ?_⟩
 ·by_cases e : i = j
  ·right
   subst e
   have hni : (t.set i ⟨k, (d : Int), nm, 0, 0, 0⟩).n i = ⟨k, (d : Int), nm, 0, 0, 0⟩ := by rw [hn, if_pos rfl]
   have hup : up (t.set i ⟨k, (d : Int), nm, 0, 0, 0⟩) i = d := by unfold up; rw [hni]; exact Int.toNat_natCast d
   refine ⟨by rw [hni]; dsimp only; omega, by rw [hni]; dsimp only; omega, by rw [hup, hn, if_neg hdi]; exact hdk, by rw [hni]; exact hnm, ?_, ?_⟩
   ·obtain ⟨f, hf⟩ := hrd d hd (kind_nz (by rw [hdk]; decide))
    exact ⟨f + 1, by rw [it, hup]; exact hf⟩
   ·rw [hni]; unfold Shaped; dsimp only; omega
  ·by_cases hnz : t.n j = Nd.zero
   ·left; rw [hn, if_neg e]; exact hnz
   ·right
    have hg := (h.nd j hj1 hj).resolve_left hnz
    have hnj : (t.set i ⟨k, (d : Int), nm, 0, 0, 0⟩).n j = t.n j := by rw [hn, if_neg e]
    have hup : up (t.set i ⟨k, (d : Int), nm, 0, 0, 0⟩) j = up t j := by unfold up; rw [hnj]
    have hne : i ≠ up t j := fun e' => by have := hg.dir; rw [← e', hz] at this; exact absurd this (by decide)
    exact ⟨by rw [hnj]; exact hg.p0, by rw [hnj]; exact hg.p8, by rw [hup, hn, if_neg hne]; exact hg.dir, by rw [hnj]; exact hg.nm, hrd j hj hnz, by rw [hnj]; exact hg.sh⟩
 ·intro a b ha1 ha hb1 hb hne hza hzb hs
  rw [hn] at hza hs
  rw [hn b] at hzb hs
  by_cases ea : i = a
  ·rw [if_pos ea] at hs
   have eb : i ≠ b := fun e => hne (by rw [← ea, e])
   rw [if_neg eb] at hs hzb
   exact childM_none hch b hb1 hb ⟨nz_kind h hb hzb, hs.1.symm, hs.2.symm⟩
  ·rw [if_neg ea] at hs hza
   by_cases eb : i = b
   ·rw [if_pos eb] at hs
    exact childM_none hch a ha1 ha ⟨nz_kind h ha hza, hs.1, hs.2⟩
   ·rw [if_neg eb] at hs hzb
    exact h.un a b ha1 ha hb1 hb hne hza hzb hs
 ·refine bf_same (clAt_set h.ok hi (by rw [hz]; rfl) (by rw [hz]; rfl) (fun hx => ?_)) (fun k hk => rfl) h.bf
  rw [hz] at hx
  rcases hx with hx | hx <;> exact absurd rfl hx
theorem wf_move {t : TR} (h : WF t) {a d : Nat} {nm : Str} (ha1 : 1 ≤ a) (ha : a < 8) (hza : t.n a ≠ Nd.zero) (hd : d < 8) (hdk : (t.n d).kind = 1) (hnm : isNameM nm = true) (hch : childM t (d : Int) nm < 0) (hu : underFrom t (a : Int) 8 (d : Int) = false) : WF (t.set a { t.n a with parent := (d : Int), name := nm }) := by
 have hn : ∀ j, (t.set a { t.n a with parent := (d : Int), name := nm }).n j = if a = j then { t.n a with parent := (d : Int), name := nm } else t.n j := fun j => TR.n_set h.ok ha _ j
 generalize hT : t.set a { t.n a with parent := (d : Int), name := nm } = t' at hn ⊢
 have h0 := up_root h.root
 have hr : t'.n 0 = Nd.root := by rw [hn, if_neg (by omega), h.root]
 have h0' := up_root hr
 have hupa : up t' a = d := by unfold up; rw [hn, if_pos rfl]; exact Int.toNat_natCast d
 have hupn : ∀ j, a ≠ j → up t' j = up t j := fun j e => by unfold up; rw [hn, if_neg e]
 have hkk : ∀ j, (t'.n j).kind = (t.n j).kind := fun j => by
  rw [hn]
  split
  ·rename_i e; subst e; rfl
  ·rfl
 have hzz : ∀ j, t'.n j = Nd.zero → j < 8 → t.n j = Nd.zero := fun j hj hj8 => by
  have : (t.n j).kind = 0 := by rw [← hkk, hj]; rfl
  exact (kind_of_good h hj8 this).2
 have key : ∀ (f j : Nat), j < 8 → it t f j = 0 → underFrom t (a : Int) f (j : Int) = false → it t' f j = 0 := by
  intro f
  induction f with
  | zero => intro j _ h _; exact h
  | succ f ih =>
   intro j hj hf hu
   by_cases hj0 : j = 0
   ·subst hj0; exact it_zero h0' _
   ·rw [underFrom, if_neg (by omega)] at hu
    split at hu
    ·cases hu
    ·rename_i hja
     rw [it] at hf ⊢
     rw [hupn j (by omega)]
     have hp := h.par j hj
     refine ih (up t j) (h.up8 j hj) hf ?_
     rw [Int.toNat_natCast] at hu
     have e : ((up t j : Nat) : Int) = (t.n j).parent := by unfold up; omega
     rw [e]
     exact hu
 have hd0 : it t 8 d = 0 := by
  by_cases e : d = 0
  ·subst e; exact it_zero h0 _
  ·obtain ⟨f, hf⟩ := ((h.nd d (by omega) hd).resolve_left (kind_nz (by rw [hdk]; decide))).rt
   exact it_more h0 (reach h0 h.up8 hd hf) (by omega)
 have hd1 : it t' 8 d = 0 := key 8 d hd hd0 hu
 have hall : ∀ (f j : Nat), j < 8 → it t f j = 0 → ∃ g, it t' g j = 0 := by
  intro f
  induction f with
  | zero => intro j _ h; exact ⟨0, h⟩
  | succ f ih =>
   intro j hj hf
   by_cases e : a = j
   ·subst e; exact ⟨9, by rw [it, hupa]; exact hd1⟩
   ·rw [it] at hf
    obtain ⟨g, hg⟩ := ih (up t j) (h.up8 j hj) hf
    exact ⟨g + 1, by rw [it, hupn j e]; exact hg⟩
 refine ⟨by rw [← hT]; exact TR.ok_set h.ok _ _, hr, fun j hj1 hj => ?_, ?_, ?_⟩
 ·by_cases hnz : t.n j = Nd.zero
  ·left
   have : a ≠ j := fun e => hza (by rw [e]; exact hnz)
   rw [hn, if_neg this]; exact hnz
  ·right
   have hg := (h.nd j hj1 hj).resolve_left hnz
   obtain ⟨f, hf⟩ := hg.rt
   obtain ⟨g, hg'⟩ := hall f j hj hf
   by_cases e : a = j
   ·subst e
    have hna : t'.n a = { t.n a with parent := (d : Int), name := nm } := by rw [hn, if_pos rfl]
    exact ⟨by rw [hna]; dsimp only; omega, by rw [hna]; dsimp only; omega, by rw [hupa, hkk]; exact hdk, by rw [hna]; exact hnm, ⟨g, hg'⟩, by rw [hna]; exact hg.sh⟩
   ·have hnj : t'.n j = t.n j := by rw [hn, if_neg e]
    exact ⟨by rw [hnj]; exact hg.p0, by rw [hnj]; exact hg.p8, by rw [hupn j e, hkk]; exact hg.dir, by rw [hnj]; exact hg.nm, ⟨g, hg'⟩, by rw [hnj]; exact hg.sh⟩
 ·intro x y hx1 hx hy1 hy hne hzx hzy hs
  have hzx' : t.n x ≠ Nd.zero := fun e => nz_kind h hx (fun e' => by
   apply hzx
   by_cases ea : a = x
   ·exact absurd (by rw [ea]; exact e') hza
   ·rw [hn, if_neg ea]; exact e') (by rw [e]; rfl)
  have hzy' : t.n y ≠ Nd.zero := fun e' => by
   apply hzy
   by_cases ea : a = y
   ·exact absurd (by rw [ea]; exact e') hza
   ·rw [hn, if_neg ea]; exact e'
  rw [hn x, hn y] at hs
  by_cases ea : a = x
  ·have eb : a ≠ y := fun e => hne (by rw [← ea, e])
   rw [if_pos ea, if_neg eb] at hs
   exact childM_none hch y hy1 hy ⟨nz_kind h hy hzy', hs.1.symm, hs.2.symm⟩
  ·rw [if_neg ea] at hs
   by_cases eb : a = y
   ·rw [if_pos eb] at hs
    exact childM_none hch x hx1 hx ⟨nz_kind h hx hzx', hs.1, hs.2⟩
   ·rw [if_neg eb] at hs
    exact h.un x y hx1 hx hy1 hy hne hzx' hzy' hs
 ·rw [← hT]
  exact bf_same (clAt_set h.ok ha rfl rfl (fun _ => rfl)) (fun k hk => rfl) h.bf
theorem bf_clear {t t' : TR} {i : Nat} (h : BF t) (hp : ∀ p, p < 16 → p / 2 ≠ i → clAt t' p = clAt t p) (hi : ∀ p, p < 16 → p / 2 = i → (clAt t' p).1 = 0)
  (hc : ∀ k p : Nat, k < 8 → p < 16 → p / 2 = i → (clAt t p).1 = (k : Int) + 1 → t'.b k = List.replicate 40 0) (hs : ∀ k : Nat, k < 8 → (∀ p, p < 16 → p / 2 = i → (clAt t p).1 ≠ (k : Int) + 1) → t'.b k = t.b k) : BF t' := by
 have hin : ∀ p, p < 16 → (clAt t' p).1 ≠ 0 → p / 2 ≠ i := fun p hp16 hn e => hn (hi p hp16 e)
 refine ⟨fun p q hp16 hq16 hne h1 => ?_, fun k q hk hq hl => ?_⟩
 ·have e1 := hin p hp16 h1
  rw [hp p hp16 e1] at h1 ⊢
  by_cases e2 : q / 2 = i
  ·rw [hi q hq16 e2]; exact h1
  ·rw [hp q hq16 e2]
   exact h.one p q hp16 hq16 hne h1
 ·by_cases hx : ∃ p, p < 16 ∧ p / 2 = i ∧ (clAt t p).1 = (k : Int) + 1
  ·obtain ⟨p, hp16, e, he⟩ := hx
   rw [hc k p hk hp16 e he]
   rw [List.getElem?_replicate, if_pos hq]
  ·rw [hs k hk (fun p hp16 e he => hx ⟨p, hp16, e, he⟩)]
   refine h.nought k q hk hq (fun p hp16 he => ?_)
   have e : p / 2 ≠ i := fun e => hx ⟨p, hp16, e, he⟩
   rw [← hp p hp16 e]
   exact hl p hp16 (by rw [hp p hp16 e]; exact he)
theorem clr_b {t : TR} (ht : t.Ok) {b : Int} (hb : 0 ≤ b ∧ b ≤ 8) {k : Nat} (hk : k < 8) : (clrM t b).b k = if b = (k : Int) + 1 then List.replicate 40 0 else t.b k := by
 unfold clrM
 by_cases h : b = 0
 ·subst h
  rw [if_neg (by simp), if_neg (by omega)]
 ·rw [if_pos h, TR.b_setB ht (by omega)]
  by_cases e : b = (k : Int) + 1
  ·rw [if_pos (by omega), if_pos e]
  ·rw [if_neg (by omega), if_neg e]
theorem clAt_of {t : TR} {p : Nat} : (clAt t p).1 = if p % 2 = 0 then (t.n (p / 2)).b0 else (t.n (p / 2)).b1 := by
 unfold clAt
 split <;> rfl
theorem empty_b {t : TR} (ht : t.Ok) {i : Nat} (hb : Bks (t.n i)) {x : Nd} {k : Nat} (hk : k < 8) : ((clrM (clrM t (t.n i).b0) (t.n i).b1).set i x).b k = if (t.n i).b0 = (k : Int) + 1 ∨ (t.n i).b1 = (k : Int) + 1 then List.replicate 40 0 else t.b k := by
 rw [TR.b_set, clr_b (ok_clr ht) ⟨hb.2.2.1, hb.2.2.2⟩ hk, clr_b ht ⟨hb.1, hb.2.1⟩ hk]
 by_cases h1 : (t.n i).b1 = (k : Int) + 1
 ·rw [if_pos h1, if_pos (.inr h1)]
 ·rw [if_neg h1]
  by_cases h0 : (t.n i).b0 = (k : Int) + 1
  ·rw [if_pos h0, if_pos (.inl h0)]
  ·rw [if_neg h0, if_neg (by intro h; exact h.elim h0 h1)]
theorem bf_empty {t : TR} (h : WF t) {i : Nat} (hi : i < 8) {x : Nd} (h0 : x.b0 = 0) (h1 : x.b1 = 0) : BF ((clrM (clrM t (t.n i).b0) (t.n i).b1).set i x) := by
 have hb := h.bks i hi
 have hok := ok_clr (ok_clr h.ok (b := (t.n i).b0)) (b := (t.n i).b1)
 have hn : ∀ j, ((clrM (clrM t (t.n i).b0) (t.n i).b1).set i x).n j = if i = j then x else t.n j := fun j => by rw [TR.n_set hok hi, n_clr, n_clr]
 refine bf_clear (i := i) h.bf (fun p hp e => ?_) (fun p hp e => ?_) (fun k p hk hp e he => ?_) (fun k hk hp => ?_)
 ·have hne := hn (p / 2)
  rw [if_neg (fun e' => e e'.symm)] at hne
  unfold clAt
  rw [hne]
 ·rw [clAt_of, hn, if_pos e.symm, h0, h1]
  split <;> rfl
 ·rw [empty_b h.ok hb hk, if_pos]
  rw [clAt_of, e] at he
  split at he
  ·exact .inl he
  ·exact .inr he
 ·rw [empty_b h.ok hb hk, if_neg]
  have a0 := hp (2 * i) (by omega) (by omega)
  have a1 := hp (2 * i + 1) (by omega) (by omega)
  rw [clAt_of, if_pos (by omega), show 2 * i / 2 = i by omega] at a0
  rw [clAt_of, if_neg (by omega), show (2 * i + 1) / 2 = i by omega] at a1
  intro hx
  exact hx.elim a0 a1
theorem wf_cut {t : TR} (h : WF t) {i : Nat} (hi1 : 1 ≤ i) (hi : i < 8) : WF (emptyM t i) := by
 have hn : ∀ j, (emptyM t i).n j = if i = j then { t.n i with size := 0, b0 := 0, b1 := 0 } else t.n j := fun j => by
  unfold emptyM
  rw [TR.n_set (ok_clr (ok_clr h.ok)) hi, n_clr, n_clr]
 have hb : BF (emptyM t i) := bf_empty h hi rfl rfl
 have hok := ok_empty h.ok (i := i)
 generalize emptyM t i = t' at *
 have hr : t'.n 0 = Nd.root := by rw [hn, if_neg (by omega), h.root]
 have hp : ∀ j, (t'.n j).parent = (t.n j).parent ∧ (t'.n j).name = (t.n j).name ∧ (t'.n j).kind = (t.n j).kind := fun j => by
  rw [hn]
  split
  ·rename_i e; subst e; exact ⟨rfl, rfl, rfl⟩
  ·exact ⟨rfl, rfl, rfl⟩
 have hup : ∀ j, up t' j = up t j := fun j => by unfold up; rw [(hp j).1]
 have hnz : ∀ j, j < 8 → t'.n j ≠ Nd.zero → t.n j ≠ Nd.zero := fun j hj hz e => hz (by
  rw [hn]
  split
  ·rename_i e'; subst e'; rw [e]; rfl
  ·exact e)
 refine ⟨hok, hr, fun j hj1 hj => ?_, fun a b ha1 ha hb1 hb' hne hza hzb hs => ?_, hb⟩
 ·by_cases hz : t.n j = Nd.zero
  ·left
   rw [hn]
   split
   ·rename_i e'; subst e'; rw [hz]; rfl
   ·exact hz
  ·right
   have hg := (h.nd j hj1 hj).resolve_left hz
   obtain ⟨f, hf⟩ := hg.rt
   refine ⟨by rw [(hp j).1]; exact hg.p0, by rw [(hp j).1]; exact hg.p8, by rw [hup, (hp _).2.2]; exact hg.dir, by rw [(hp j).2.1]; exact hg.nm, ⟨f, ?_⟩, ?_⟩
   ·exact it_same (S := fun _ => True) (fun _ _ _ => trivial) (fun j _ _ => hup j) (up_root h.root) (up_root hr) f j trivial hf
   ·rw [hn]
    split
    ·rename_i e'
     subst e'
     have := hg.sh
     unfold Shaped at this ⊢
     dsimp only
     omega
    ·exact hg.sh
 ·exact h.un a b ha1 ha hb1 hb' hne (hnz a ha hza) (hnz b hb' hzb) ⟨by rw [← (hp a).1, ← (hp b).1]; exact hs.1, by rw [← (hp a).2.1, ← (hp b).2.1]; exact hs.2⟩
theorem held_none {t : TR} {a : Int} : ∀ {f i : Nat}, heldFrom t a f i = false → ∀ j, i ≤ j → j < i + f → ¬ ((t.n j).kind ≠ 0 ∧ (t.n j).parent = a)
 | 0, i, _, j, h1, h2 => by omega
 | f + 1, i, h, j, h1, h2 => by
  rw [heldFrom] at h
  split at h
  ·cases h
  ·rename_i hn
   by_cases e : j = i
   ·subst e; exact hn
   ·exact held_none h j (by omega) (by omega)
theorem wf_remove {t : TR} (h : WF t) {i : Nat} (hi1 : 1 ≤ i) (hi : i < 8) (hh : heldFrom t (i : Int) 7 1 = false) : WF ((emptyM t i).set i Nd.zero) := by
 have e0 : (emptyM t i).set i Nd.zero = (clrM (clrM t (t.n i).b0) (t.n i).b1).set i Nd.zero := by
  unfold emptyM
  rw [TR.set, TR.set, List.set_set]
  rfl
 have hn : ∀ j, ((emptyM t i).set i Nd.zero).n j = if i = j then Nd.zero else t.n j := fun j => by
  rw [e0, TR.n_set (ok_clr (ok_clr h.ok)) hi, n_clr, n_clr]
 have hb : BF ((emptyM t i).set i Nd.zero) := by rw [e0]; exact bf_empty h hi rfl rfl
 have hok := TR.ok_set (ok_empty h.ok (i := i)) i Nd.zero
 generalize (emptyM t i).set i Nd.zero = t' at *
 have hr : t'.n 0 = Nd.root := by rw [hn, if_neg (by omega), h.root]
 have hnz : ∀ j, t'.n j ≠ Nd.zero → i ≠ j ∧ t'.n j = t.n j := fun j hz => by
  rw [hn] at hz ⊢
  split at hz
  ·exact absurd rfl hz
  ·rename_i e; exact ⟨e, by rw [if_neg e]⟩
 have hch : ∀ j, 1 ≤ j → j < 8 → t.n j ≠ Nd.zero → up t j ≠ i := fun j hj1 hj hz e => held_none hh j hj1 (by omega) ⟨nz_kind h hj hz, by
  have := h.par j hj
  unfold up at e
  omega⟩
 refine ⟨hok, hr, fun j hj1 hj => ?_, fun a b ha1 ha hb1 hb' hne hza hzb hs => ?_, hb⟩
 ·by_cases hz : t'.n j = Nd.zero
  ·exact .inl hz
  ·right
   obtain ⟨e, hnj⟩ := hnz j hz
   have hzt : t.n j ≠ Nd.zero := by rw [← hnj]; exact hz
   have hg := (h.nd j hj1 hj).resolve_left hzt
   obtain ⟨f, hf⟩ := hg.rt
   have hupj : up t' j = up t j := by unfold up; rw [hnj]
   have hkd : (t'.n (up t j)).kind = 1 := by
    rw [hn, if_neg (fun e' => hch j hj1 hj hzt e'.symm)]
    exact hg.dir
   refine ⟨by rw [hnj]; exact hg.p0, by rw [hnj]; exact hg.p8, by rw [hupj]; exact hkd, by rw [hnj]; exact hg.nm, ⟨f, ?_⟩, by rw [hnj]; exact hg.sh⟩
   refine it_same (S := fun j => j < 8 ∧ t.n j ≠ Nd.zero ∧ i ≠ j) (fun j hs h0 => ⟨h.up8 j hs.1, kind_nz (by rw [h.alive_up hs.1 h0 hs.2.1]; decide), fun e' => hch j (by omega) hs.1 hs.2.1 e'.symm⟩) (fun j hs h0 => by unfold up; rw [hn, if_neg hs.2.2]) (up_root h.root) (up_root hr) f j ⟨hj, hzt, e⟩ hf
 ·obtain ⟨ea, na⟩ := hnz a hza
  obtain ⟨eb, nb⟩ := hnz b hzb
  rw [na] at hza hs
  rw [nb] at hzb hs
  exact h.un a b ha1 ha hb1 hb' hne hza hzb hs
theorem wf_same {t t' : TR} (h : WF t) (hok : t'.Ok) (hr : t'.n 0 = Nd.root) (hp : ∀ j, (t'.n j).parent = (t.n j).parent ∧ (t'.n j).name = (t.n j).name ∧ (t'.n j).kind = (t.n j).kind) (hz : ∀ j, j < 8 → t.n j = Nd.zero → t'.n j = Nd.zero) (hsh : ∀ j, 1 ≤ j → j < 8 → t.n j ≠ Nd.zero → Shaped (t'.n j)) (hb : BF t') : WF t' := by
 have hup : ∀ j, up t' j = up t j := fun j => by unfold up; rw [(hp j).1]
 refine ⟨hok, hr, fun j hj1 hj => ?_, fun a b ha1 ha hb1 hb' hne hza hzb hs => ?_, hb⟩
 ·by_cases hzj : t.n j = Nd.zero
  ·exact .inl (hz j hj hzj)
  ·right
   have hg := (h.nd j hj1 hj).resolve_left hzj
   obtain ⟨f, hf⟩ := hg.rt
   refine ⟨by rw [(hp j).1]; exact hg.p0, by rw [(hp j).1]; exact hg.p8, by rw [hup, (hp _).2.2]; exact hg.dir, by rw [(hp j).2.1]; exact hg.nm, ⟨f, ?_⟩, hsh j hj1 hj hzj⟩
   exact it_same (S := fun _ => True) (fun _ _ _ => trivial) (fun j _ _ => hup j) (up_root h.root) (up_root hr) f j trivial hf
 ·exact h.un a b ha1 ha hb1 hb' hne (fun e => hza (hz a ha e)) (fun e => hzb (hz b hb' e)) ⟨by rw [← (hp a).1, ← (hp b).1]; exact hs.1, by rw [← (hp a).2.1, ← (hp b).2.1]; exact hs.2⟩
def Fresh (t : TR) (x : Int) : Prop := 1 ≤ x ∧ x ≤ 8 ∧ ∀ i, i < 8 → (t.n i).b0 ≠ x ∧ (t.n i).b1 ≠ x
theorem unusedFrom_fresh {t : TR} : ∀ {f b : Nat}, unusedFrom t f b ≠ 0 → hasB t (unusedFrom t f b) = false
 | 0, b, h => absurd rfl h
 | f + 1, b, h => by
  rw [unusedFrom] at h ⊢
  split at h
  ·rename_i hb
   rw [if_pos hb]
   exact unusedFrom_fresh h
  ·rename_i hb
   rw [if_neg hb]
   simpa using hb
theorem unused_fresh {t : TR} (ht : t.Ok) (h : unusedM t ≠ 0) : Fresh t (unusedM t) := by
 have h1 : hasB t (unusedM t) = false := unusedFrom_fresh h
 refine ⟨by omega, by have := unusedM_le (t := t); omega, fun i hi => ?_⟩
 unfold hasB at h1
 rw [List.any_eq_false] at h1
 have := h1 (t.n i) (by rw [TR.n_get ht hi]; exact List.getElem_mem _)
 simpa using this
structure Grown (t u : TR) (f : Nat) (size : Int) (x0 x1 : Int) : Prop where
 eq : u = t.set f { t.n f with size := size, b0 := x0, b1 := x1 }
 a0 : x0 = (t.n f).b0 ∨ ((t.n f).b0 = 0 ∧ 0 < size ∧ Fresh t x0)
 a1 : x1 = (t.n f).b1 ∨ ((t.n f).b1 = 0 ∧ 40 < size ∧ Fresh t x1 ∧ x1 ≠ x0)
 c0 : 0 < size → x0 ≠ 0
 c1 : 40 < size → x1 ≠ 0
theorem set_self_n {t : TR} (ht : t.Ok) {f : Nat} (hf : f < 8) : t.set f (t.n f) = t := by
 unfold TR.set
 rw [TR.n_get ht hf, List.set_getElem_self]
theorem grown_of {t u : TR} {f : Nat} {size quota : Int} (ht : t.Ok) (hf : f < 8) (h : growM t f size quota = some u) : ∃ x0 x1, Grown t u f size x0 x1 := by
 rw [growM_eq] at h
 unfold growTo growTo growTo at h
 simp only [Option.bind_some] at h
 cases h0 : growJ t f size quota 0 with
 | none => rw [h0] at h; cases h
 | some a =>
  rw [h0, Option.bind_some] at h
  cases h1 : growJ a f size quota 1 with
  | none => rw [h1] at h; cases h
  | some b =>
   rw [h1, Option.map_some] at h
   cases h
   have e0 : ∃ x0, a = t.set f { t.n f with b0 := x0 } ∧ (x0 = (t.n f).b0 ∨ ((t.n f).b0 = 0 ∧ 0 < size ∧ Fresh t x0)) ∧ (0 < size → x0 ≠ 0) := by
    unfold growJ at h0
    split at h0
    ·rename_i hc
     cases h0
     refine ⟨(t.n f).b0, (set_self_n ht hf).symm, .inl rfl, fun hs => ?_⟩
     rcases hc with hc | hc
     ·omega
     ·exact hc
    ·rename_i hc
     split at h0
     ·cases h0
     ·rename_i hc2
      cases h0
      have hfr := unused_fresh ht (show unusedM t ≠ 0 by omega)
      have hc' : ¬ (size ≤ ((0 : Nat) : Int) * 40) ∧ ¬ ((t.n f).b0 ≠ 0) := ⟨fun h => hc (.inl h), fun h => hc (.inr h)⟩
      exact ⟨unusedM t, rfl, .inr ⟨by omega, by omega, hfr⟩, fun _ => by have := hfr.1; omega⟩
   obtain ⟨x0, ea, p0, q0⟩ := e0
   have oka : a.Ok := by rw [ea]; exact TR.ok_set ht _ _
   have ena : a.n f = { t.n f with b0 := x0 } := by rw [ea, TR.n_set ht hf, if_pos rfl]
   have e1 : ∃ x1, b = t.set f { t.n f with b0 := x0, b1 := x1 } ∧ (x1 = (t.n f).b1 ∨ ((t.n f).b1 = 0 ∧ 40 < size ∧ Fresh t x1 ∧ x1 ≠ x0)) ∧ (40 < size → x1 ≠ 0) := by
    unfold growJ at h1
    split at h1
    ·rename_i hc
     cases h1
     refine ⟨(t.n f).b1, ?_, .inl rfl, fun hs => ?_⟩
     ·exact ea
     ·rcases hc with hc | hc
      ·omega
      ·rw [ena] at hc; exact hc
    ·rename_i hc
     split at h1
     ·cases h1
     ·rename_i hc2
      cases h1
      have hfr := unused_fresh oka (show unusedM a ≠ 0 by omega)
      have hc' : ¬ (size ≤ ((1 : Nat) : Int) * 40) ∧ ¬ ((a.n f).b1 ≠ 0) := ⟨fun h => hc (.inl h), fun h => hc (.inr h)⟩
      have hb1 : (a.n f).b1 = (t.n f).b1 := by rw [ena]
      have hx0 : (a.n f).b0 = x0 := by rw [ena]
      have hff := hfr.2.2 f hf
      refine ⟨unusedM a, ?_, .inr ⟨by omega, by omega, ⟨hfr.1, hfr.2.1, fun i hi => ?_⟩, by omega⟩, fun _ => by have := hfr.1; omega⟩
      ·rw [ena, ea]
       unfold TR.set
       rw [List.set_set]
       rfl
      ·by_cases e : f = i
       ·subst e
        refine ⟨?_, by rw [← hb1]; exact hff.2⟩
        rcases p0 with p0 | p0
        ·rw [← p0, ← hx0]; exact hff.1
        ·have := hfr.1; omega
       ·have := hfr.2.2 i hi
        have hni : a.n i = t.n i := by rw [ea, TR.n_set ht hf, if_neg e]
        rw [hni] at this
        exact this
   obtain ⟨x1, eb, p1, q1⟩ := e1
   have okb : b.n f = { t.n f with b0 := x0, b1 := x1 } := by rw [eb, TR.n_set ht hf, if_pos rfl]
   refine ⟨x0, x1, ?_, p0, p1, q0, q1⟩
   rw [okb, eb]
   unfold TR.set
   rw [List.set_set]
theorem poke_other {u : TR} (hu : u.Ok) {f p : Nat} {c : UInt8} (hb : 0 < (u.n f).blk (p / 40) ∧ (u.n f).blk (p / 40) ≤ 8) {k q : Nat} (hn : ¬ ((u.n f).blk (p / 40) = (k : Int) + 1 ∧ p % 40 = q)) : ((pokeM u f p c).b k)[q]? = (u.b k)[q]? := by
 unfold pokeM
 rw [TR.b_setB hu (by omega)]
 by_cases e : ((u.n f).blk (p / 40) - 1).toNat = k
 ·rw [if_pos e, e]
  have : p % 40 ≠ q := fun h => hn ⟨by omega, h⟩
  rw [List.getElem?_set_ne this]
 ·rw [if_neg e]
theorem pokes_other {f k q : Nat} : ∀ {l : Str} {u : TR} {p : Nat}, u.Ok → (∀ i : Nat, p ≤ i → i < p + l.length → 0 < (u.n f).blk (i / 40) ∧ (u.n f).blk (i / 40) ≤ 8) → (∀ i : Nat, p ≤ i → i < p + l.length → ¬ ((u.n f).blk (i / 40) = (k : Int) + 1 ∧ i % 40 = q)) → ((pokesM u f p l).b k)[q]? = (u.b k)[q]?
 | [], u, p, _, _, _ => rfl
 | c :: l, u, p, hu, hb, hn => by
  rw [pokesM, pokes_other (ok_poke hu (hb p (Nat.le_refl _) (by simp))) (fun i h1 h2 => hb i (by omega) (by simp only [List.length_cons]; omega)) (fun i h1 h2 => hn i (by omega) (by simp only [List.length_cons]; omega))]
  exact poke_other hu (hb p (Nat.le_refl _) (by simp)) (hn p (Nat.le_refl _) (by simp))
theorem wf_write {t u : TR} (h : WF t) {f : Nat} (hf1 : 1 ≤ f) (hf : f < 8) (hk : (t.n f).kind = 2) {size quota : Int} (hg : growM t f size quota = some u) (hs1 : (t.n f).size ≤ size) (hs2 : size ≤ 80) {a : Nat} {l : Str} (hal : (a : Int) + l.length ≤ size) : WF (pokesM u f a l) := by
 obtain ⟨x0, x1, G⟩ := grown_of h.ok hf hg
 obtain ⟨hu, hub, hus, hun⟩ := growM_facts h.ok hf (bksJ_iff.2 (h.bks f hf)) hg
 have hnz : t.n f ≠ Nd.zero := kind_nz (by rw [hk]; decide)
 have hsh := ((h.nd f hf1 hf).resolve_left hnz).sh
 have hun' : ∀ j, u.n j = if f = j then { t.n f with size := size, b0 := x0, b1 := x1 } else t.n j := fun j => by rw [G.eq, TR.n_set h.ok hf]
 have hblk : ∀ i : Nat, a ≤ i → i < a + l.length → 0 < (u.n f).blk (i / 40) ∧ (u.n f).blk (i / 40) ≤ 8 := by
  intro i h1 h2
  have hj : i / 40 < 2 := by omega
  have b1 := hub _ hj
  have b2 := hun _ hj (by have := Nat.div_mul_le_self i 40; omega)
  omega
 have hok : (pokesM u f a l).Ok := ok_pokes hu hblk
 have hn : ∀ j, (pokesM u f a l).n j = u.n j := fun j => pokes_n
 have hb0 : (u.n f).blk 0 = x0 := by rw [hun', if_pos rfl]; rfl
 have hb1 : (u.n f).blk 1 = x1 := by rw [hun', if_pos rfl]; rfl
 have hub0 := hub 0 (by omega)
 have hub1 := hub 1 (by omega)
 rw [hb0] at hub0
 rw [hb1] at hub1
 have hct : ∀ p, (clAt (pokesM u f a l) p) = clAt u p := fun p => by unfold clAt; rw [hn]
 -- a place's number is as it was, or fresh
 have hcl : ∀ p, p < 16 → (p / 2 ≠ f → clAt u p = clAt t p) ∧ (p / 2 = f → (clAt u p).1 = if p % 2 = 0 then x0 else x1) ∧ (p / 2 = f → (clAt t p).1 = if p % 2 = 0 then (t.n f).b0 else (t.n f).b1) := by
  intro p hp
  refine ⟨fun e => ?_, fun e => ?_, fun e => ?_⟩
  ·have := hun' (p / 2)
   rw [if_neg (fun e' => e e'.symm)] at this
   unfold clAt
   rw [this]
  ·rw [clAt_of, e, hun', if_pos rfl]
  ·rw [clAt_of, e]
 have hfr : ∀ x, Fresh t x → ∀ p, p < 16 → (clAt t p).1 ≠ x := by
  intro x hx p hp
  rw [clAt_of]
  have := hx.2.2 (p / 2) (by omega)
  split
  ·exact this.1
  ·exact this.2
 have hor : ∀ p, p < 16 → (clAt u p).1 = (clAt t p).1 ∨ ((clAt t p).1 = 0 ∧ Fresh t (clAt u p).1 ∧ p / 2 = f) := by
  intro p hp
  obtain ⟨q1, q2, q3⟩ := hcl p hp
  by_cases e : p / 2 = f
  ·rw [q2 e, q3 e]
   split
   ·rcases G.a0 with h' | ⟨h1, _, h3⟩
    ·exact .inl h'
    ·exact .inr ⟨h1, h3, e⟩
   ·rcases G.a1 with h' | ⟨h1, _, h3, _⟩
    ·exact .inl h'
    ·exact .inr ⟨h1, h3, e⟩
  ·exact .inl (by rw [q1 e])
 refine wf_same h hok ?_ (fun j => ?_) (fun j hj hz => ?_) (fun j hj1 hj hz => ?_) ⟨fun p q hp hq hne h0 => ?_, fun k q hk8 hq hl => ?_⟩
 ·rw [hn, hun', if_neg (by omega), h.root]
 ·rw [hn, hun']
  split
  ·rename_i e; subst e; exact ⟨rfl, rfl, rfl⟩
  ·exact ⟨rfl, rfl, rfl⟩
 ·rw [hn, hun', if_neg (fun e => hnz (by rw [e]; exact hz)), hz]
 ·rw [hn, hun']
  split
  ·unfold Shaped at hsh ⊢
   dsimp only
   have c0 := G.c0
   have c1 := G.c1
   have a0 := G.a0
   have a1 := G.a1
   right
   refine ⟨hk, by omega, hs2, fun hz' => ?_, fun hz' => ⟨by have := c0 hz'; omega, by omega⟩, fun hz' => ?_, fun hz' => ⟨by have := c1 hz'; omega, by omega⟩⟩
   ·rcases a0 with h' | ⟨_, h', _⟩
    ·omega
    ·omega
   ·rcases a1 with h' | ⟨_, h', _⟩
    ·omega
    ·omega
  ·exact ((h.nd j hj1 hj).resolve_left hz).sh
 ·rw [hct p] at h0 ⊢
  rw [hct q]
  rcases hor p hp with e1 | ⟨e1, f1, g1⟩
  ·rw [e1] at h0 ⊢
   rcases hor q hq with e2 | ⟨e2, f2, g2⟩
   ·rw [e2]; exact h.bf.one p q hp hq hne h0
   ·exact hfr _ f2 p hp
  ·rcases hor q hq with e2 | ⟨e2, f2, g2⟩
   ·rw [e2]; exact fun e => hfr _ f1 q hq e.symm
   ·obtain ⟨_, p2, p3⟩ := hcl p hp
    obtain ⟨_, q2, q3⟩ := hcl q hq
    rw [p2 g1] at f1 ⊢
    rw [q2 g2] at f2 ⊢
    rw [p3 g1] at e1
    rw [q3 g2] at e2
    rcases (show p % 2 = 0 ∧ q % 2 = 1 ∨ p % 2 = 1 ∧ q % 2 = 0 by omega) with ⟨m1, m2⟩ | ⟨m1, m2⟩
    ·rw [if_pos m1, if_neg (by omega)]
     rw [if_pos m1] at f1
     rw [if_neg (by omega)] at f2 e2
     rcases G.a1 with h' | ⟨_, _, _, h'⟩
     ·have := f2.1; omega
     ·exact fun e => h' e.symm
    ·rw [if_neg (by omega), if_pos m2]
     rw [if_neg (by omega)] at f1 e1
     rcases G.a1 with h' | ⟨_, _, _, h'⟩
     ·have := f1.1; omega
     ·exact h'
 ·have hl' : ∀ p, p < 16 → (clAt u p).1 = (k : Int) + 1 → (clAt u p).2 ≤ (q : Int) := fun p hp he => by
   rw [← hct p]; exact hl p hp (by rw [hct p]; exact he)
  have hpk : ∀ i : Nat, a ≤ i → i < a + l.length → ¬ ((u.n f).blk (i / 40) = (k : Int) + 1 ∧ i % 40 = q) := by
   rintro i h1 h2 ⟨e1, e2⟩
   have hj : i / 40 < 2 := by omega
   have hq2 := hl' (2 * f + i / 40) (by omega) (by
    rw [clAt_of, show (2 * f + i / 40) / 2 = f by omega, show (2 * f + i / 40) % 2 = i / 40 by omega, ← e1]
    rfl)
   unfold clAt at hq2
   rw [show (2 * f + i / 40) / 2 = f by omega, show (2 * f + i / 40) % 2 = i / 40 by omega, hun', if_pos rfl] at hq2
   unfold least at hq2
   split at hq2 <;> dsimp only at hq2 <;> split at hq2 <;> omega
  rw [pokes_other hu hblk hpk]
  have hbu : u.b k = t.b k := by rw [G.eq]; rfl
  rw [hbu]
  refine h.bf.nought k q hk8 hq (fun p hp he => ?_)
  obtain ⟨p1, p2, p3⟩ := hcl p hp
  by_cases e : p / 2 = f
  ·have he2 : (clAt u p).1 = (k : Int) + 1 := by
    rcases hor p hp with e1 | ⟨e1, _⟩
    ·rw [e1]; exact he
    ·omega
   have := hl' p hp he2
   have hmono : (clAt t p).2 ≤ (clAt u p).2 := by
    unfold clAt
    rw [e, hun', if_pos rfl]
    unfold least
    split <;> dsimp only <;> split <;> split <;> omega
   omega
  ·rw [← p1 e]
   exact hl' p hp (by rw [p1 e]; exact he)
def NoSl (s : Str) : Prop := ∀ x ∈ s, x ≠ 47
theorem NoSl.nil : NoSl [] := fun x hx => by cases hx
theorem cut_cases : ∀ s : Str, NoSl s ∨ ∃ a r, NoSl a ∧ s = a ++ 47 :: r
 | [] => .inl NoSl.nil
 | c :: s => by
  by_cases hc : c = 47
  ·subst hc; exact .inr ⟨[], s, NoSl.nil, rfl⟩
  ·rcases cut_cases s with h | ⟨a, r, h1, h2⟩
   ·left; intro x hx
    rcases List.mem_cons.1 hx with rfl | hx
    ·exact hc
    ·exact h x hx
   ·right
    refine ⟨c :: a, r, fun x hx => ?_, by rw [h2]; rfl⟩
    rcases List.mem_cons.1 hx with rfl | hx
    ·exact hc
    ·exact h1 x hx
theorem cutS_no : ∀ {s : Str}, NoSl s → cutS s = (s, none)
 | [], _ => rfl
 | c :: s, h => by
  rw [cutS, if_neg (h c (by simp)), cutS_no (fun x hx => h x (by simp [hx]))]
theorem cutS_app : ∀ {a r : Str}, NoSl a → cutS (a ++ 47 :: r) = (a, some r)
 | [], r, _ => by rw [List.nil_append, cutS, if_pos rfl]
 | c :: a, r, h => by
  rw [List.cons_append, cutS, if_neg (h c (by simp)), cutS_app (fun x hx => h x (by simp [hx]))]
theorem parts_no {s : Str} (h : NoSl s) : parts s = [s] := by
 have e := cutS_no h
 rw [parts_none (by rw [e]), e]
theorem parts_app {a r : Str} (h : NoSl a) : parts (a ++ 47 :: r) = a :: parts r := by
 have e := cutS_app (r := r) h
 rw [parts_some (r := r) (by rw [e]), e]
theorem lastM_no : ∀ {s : Str}, NoSl s → lastM s = none
 | [], _ => rfl
 | c :: s, h => by
  rw [lastM, lastM_no (fun x hx => h x (by simp [hx]))]
  simp [h c (by simp)]
theorem lastM_app : ∀ {a r : Str}, lastM (a ++ 47 :: r) = some (a.length + match lastM r with | some j => j + 1 | none => 0)
 | [], r => by
  rw [List.nil_append, lastM]
  cases lastM r with
  | none => simp
  | some j => simp
 | c :: a, r => by
  rw [List.cons_append, lastM, lastM_app]
  simp
  omega
theorem lastM_none_no {s : Str} (h : lastM s = none) : NoSl s := by
 rcases cut_cases s with h' | ⟨a, r, _, rfl⟩
 ·exact h'
 ·rw [lastM_app] at h; cases h
theorem parts_last : ∀ (n : Nat) (s : Str) (i : Nat), s.length ≤ n → lastM s = some i → parts s = parts (s.take i) ++ [s.drop (i + 1)]
 | 0, s, i, hn, h => by
  obtain rfl : s = [] := List.eq_nil_of_length_eq_zero (by omega)
  cases h
 | n + 1, s, i, hn, h => by
  rcases cut_cases s with h' | ⟨a, r, ha, rfl⟩
  ·rw [lastM_no h'] at h; cases h
  ·rw [lastM_app] at h
   have hrl : r.length ≤ n := by simp at hn; omega
   cases hr : lastM r with
   | none =>
    rw [hr] at h
    simp at h
    subst h
    rw [parts_app ha, parts_no (lastM_none_no hr), List.take_left, parts_no ha]
    simp [List.drop_append]
   | some j =>
    rw [hr] at h
    simp at h
    subst h
    have e1 : (a ++ 47 :: r).take (a.length + (j + 1)) = a ++ 47 :: r.take j := by
     rw [List.take_append, List.take_of_length_le (by omega), show a.length + (j + 1) - a.length = j + 1 by omega, List.take_succ_cons]
    have e2 : (a ++ 47 :: r).drop (a.length + (j + 1) + 1) = r.drop (j + 1) := by
     rw [List.drop_append, List.drop_of_length_le (by omega), show a.length + (j + 1) + 1 - a.length = (j + 1) + 1 by omega, List.nil_append, List.drop_succ_cons]
    rw [e1, e2, parts_app ha, parts_app ha, parts_last n r j hrl hr, List.cons_append]
theorem names_cons {r : Str} (h : r ≠ []) : namesM (47 :: r) = parts r := by
 unfold namesM
 rw [if_neg (by intro e; exact h (by simpa using e))]
 rfl
theorem isName_ne {s : Str} (h : isNameM s = true) : s ≠ [] ∧ s.length ≤ 8 := by
 unfold isNameM at h
 simp only [Bool.and_eq_true, decide_eq_true_eq] at h
 refine ⟨fun e => ?_, h.1.2⟩
 subst e
 simp at h
theorem inner_names {p : Str} (h : isInnerM p = true) : ∃ r, p = 47 :: r ∧ r ≠ [] ∧ p.length ≤ 72 ∧ namesM p = parts r ∧ ∀ x ∈ parts r, isNameM x = true := by
 obtain ⟨h1, h2⟩ := inner_facts h
 unfold isInnerM isPathM at h
 simp only [Bool.and_eq_true, Bool.or_eq_true, decide_eq_true_eq] at h
 cases p with
 | nil => cases h2
 | cons c r =>
  simp at h2; subst h2
  have hr : r ≠ [] := fun e => h.1 (by rw [e])
  have hn := names_cons hr
  rcases h.2 with h3 | h3
  ·exact absurd h3 h.1
  ·refine ⟨r, rfl, hr, h1, hn, fun x hx => ?_⟩
   have := h3.2
   rw [hn] at this
   exact List.all_eq_true.1 this x hx
theorem split_names {p : Str} (h : isInnerM p = true) : namesM p = namesM (splitM p).1 ++ [(splitM p).2] ∧ isNameM (splitM p).2 = true ∧ isPathM (splitM p).1 = true := by
 obtain ⟨r, rfl, hr, hl, hn, hall⟩ := inner_names h
 have hlm : lastM (47 :: r) = some (match lastM r with | some j => j + 1 | none => 0) := by
  have := lastM_app (a := []) (r := r)
  rw [List.nil_append] at this
  rw [this]
  simp
 cases hj : lastM r with
 | none =>
  rw [hj] at hlm
  have hs : splitM (47 :: r) = ([47], r) := by unfold splitM; rw [hlm]; rfl
  have hp := parts_no (lastM_none_no hj)
  rw [hs, hn, hp]
  exact ⟨rfl, hall r (by rw [hp]; simp), rfl⟩
 | some j =>
  rw [hj] at hlm
  have hs : splitM (47 :: r) = (47 :: r.take j, r.drop (j + 1)) := by
   unfold splitM
   rw [hlm]
   simp
  have hp := parts_last r.length r j (Nat.le_refl _) hj
  have hne : r.take j ≠ [] := by
   intro e
   have := hall [] (by rw [hp, e]; exact List.mem_append_left _ (by rw [parts_no NoSl.nil]; simp))
   exact (isName_ne this).1 rfl
  have hnt := names_cons hne
  rw [hs]
  refine ⟨by dsimp only; rw [hn, hp, hnt], hall _ (by rw [hp]; simp), ?_⟩
  dsimp only
  unfold isPathM
  rw [hnt]
  have h1 : (47 :: r.take j).length ≤ 72 := by
   simp only [List.length_cons, List.length_take] at hl ⊢
   omega
  rw [decide_eq_true (show (47 :: r.take j : Str) ≠ [] ∧ (47 :: r.take j).length ≤ 72 ∧ (47 :: r.take j)[0]? = some 47 from ⟨by simp, h1, by simp⟩)]
  simp only [Bool.true_and, Bool.or_eq_true]
  right
  exact List.all_eq_true.2 fun x hx => hall x (by rw [hp]; exact List.mem_append_left _ hx)
theorem walk_snoc {t : TR} {l : List Str} {nm : Str} {a k : Nat} (ha : a < 8) (h : walkM t (l ++ [nm]) a = ((k : Int), 0)) : ∃ d : Nat, d < 8 ∧ walkM t l a = ((d : Int), 0) ∧ (t.n d).kind = 1 ∧ childM t (d : Int) nm = (k : Int) := by
 by_cases he : (walkM t l a).2 = 0
 ·obtain ⟨d, hd, hw⟩ := walk_range l a ha he
  rw [walk_app hw] at h
  rw [walkM] at h
  split at h
  ·cases h
  ·rename_i hk
   split at h
   ·cases h
   ·rw [walkM] at h
    rw [Int.toNat_natCast] at hk
    exact ⟨d, hd, hw, by simpa using hk, (Prod.mk.inj h).1⟩
 ·rw [walk_err he] at h
  rw [h] at he
  exact absurd rfl he
theorem find_inner {t : TR} {p : Str} (hin : isInnerM p = true) {k : Nat} (h : findM t p = ((k : Int), 0)) : 1 ≤ k ∧ k < 8 ∧ (t.n k).kind ≠ 0 ∧ ∃ d : Nat, d < 8 ∧ findM t (splitM p).1 = ((d : Int), 0) ∧ (t.n d).kind = 1 ∧ childM t (d : Int) (splitM p).2 = (k : Int) := by
 obtain ⟨h1, h2, h3⟩ := split_names hin
 have hp : isPathM p = true := by
  unfold isInnerM at hin
  simp only [Bool.and_eq_true] at hin
  exact hin.2
 unfold findM at h
 rw [if_pos hp, h1] at h
 obtain ⟨d, hd, hw, hk, hc⟩ := walk_snoc (a := 0) (by omega) h
 rcases childM_range (t := t) (d := (d : Int)) (nm := (splitM p).2) with hn | ⟨k', hk8, hk1, he, hkk, _, _⟩
 ·omega
 ·obtain rfl : k = k' := by omega
  refine ⟨hk1, hk8, hkk, d, hd, ?_, hk, hc⟩
  unfold findM
  rw [if_pos h3]
  exact hw
theorem kindOf_err {t : TR} {p : Str} {k : Int} (h : ¬ (kindOfM t p k).2 ≠ 0) : ∃ q : Nat, q < 8 ∧ kindOfM t p k = ((q : Int), 0) ∧ (t.n q).kind = k ∧ findM t p = ((q : Int), 0) := kindOfM_range (by simpa using h)
theorem make_ok {t : TR} {p : Str} {k : Int} (h : (makeM t p k).2 = 0) : checkM t = true ∧ (k = 1 ∨ k = 2) ∧ isInnerM p = true ∧ ∃ i d : Nat, findM t (splitM p).1 = ((d : Int), 0) ∧ d < 8 ∧ (t.n d).kind = 1 ∧ childM t (d : Int) (splitM p).2 < 0 ∧ 1 ≤ i ∧ i < 8 ∧ (t.n i).kind = 0 ∧ (makeM t p k).1 = t.set i ⟨k, (d : Int), (splitM p).2, 0, 0, 0⟩ := by
 unfold makeM at h ⊢
 split at h
 ·cases h
 rename_i h1
 split at h
 ·cases h
 rename_i h2
 split at h
 ·rename_i h3; exact absurd h h3
 rename_i h3
 obtain ⟨d, hd, hk, hkd, hfd⟩ := kindOf_err h3
 split at h
 ·cases h
 rename_i h4
 rw [hk] at h4
 split at h
 ·cases h
 rename_i i hi
 have hfr := freeFrom_some hi
 rw [if_neg h1, if_neg h2, if_neg h3, hk, if_neg h4]
 refine ⟨by simpa using h1, by omega, by simpa using fun e => h2 (.inr e), i, d, hfd, hd, hkd, by dsimp only at h4; omega, hfr.1, by omega, hfr.2.2, rfl⟩
theorem check_make {t : TR} (ht : t.Ok) {p : Str} {k : Int} (h : (makeM t p k).2 = 0) : checkM (makeM t p k).1 = true := by
 obtain ⟨hc, hk, hin, i, d, hf, hd, hkd, hch, hi1, hi, hki, e⟩ := make_ok h
 have hw := (check_wf ht).1 hc
 rw [e, check_wf (TR.ok_set ht _ _)]
 exact wf_make hw hi1 hi (kind_of_good hw hi hki).2 hk hd hkd (split_names hin).2.1 hch
theorem cut_ok {t : TR} {p : Str} (h : (cutM t p).2 = 0) : checkM t = true ∧ ∃ f : Nat, findM t p = ((f : Int), 0) ∧ f < 8 ∧ (t.n f).kind = 2 ∧ (cutM t p).1 = emptyM t f := by
 unfold cutM at h ⊢
 split at h
 ·cases h
 rename_i h1
 split at h
 ·rename_i h3; exact absurd h h3
 rename_i h3
 obtain ⟨d, hd, hk, hkd, hfd⟩ := kindOf_err h3
 rw [if_neg h1, if_neg h3, hk]
 exact ⟨by simpa using h1, d, hfd, hd, hkd, rfl⟩
theorem file_pos {t : TR} (h : t.n 0 = Nd.root) {f : Nat} (hk : (t.n f).kind = 2) : 1 ≤ f := by
 by_cases h0 : f = 0
 ·subst h0; rw [h] at hk; exact absurd hk (by decide)
 ·omega
theorem check_cut {t : TR} (ht : t.Ok) {p : Str} (h : (cutM t p).2 = 0) : checkM (cutM t p).1 = true := by
 obtain ⟨hc, f, _, hf, hk, e⟩ := cut_ok h
 have hw := (check_wf ht).1 hc
 rw [e, check_wf (ok_empty ht)]
 exact wf_cut hw (file_pos hw.root hk) hf
theorem remove_ok {t : TR} {p : Str} (h : (removeM t p).2 = 0) : checkM t = true ∧ isInnerM p = true ∧ ∃ f : Nat, findM t p = ((f : Int), 0) ∧ 1 ≤ f ∧ f < 8 ∧ heldFrom t (f : Int) 7 1 = false ∧ (removeM t p).1 = (emptyM t f).set f Nd.zero := by
 unfold removeM at h ⊢
 split at h
 ·cases h
 rename_i h1
 split at h
 ·cases h
 rename_i h2
 split at h
 ·rename_i h3; exact absurd h h3
 rename_i h3
 obtain ⟨f, hf, hfd⟩ := findM_range (t := t) (p := p) (by simpa using h3)
 rw [hfd] at h
 split at h
 ·cases h
 rename_i h4
 have hin : isInnerM p = true := by simpa using h2
 have hfi := find_inner hin hfd
 rw [if_neg h1, if_neg h2, if_neg h3, hfd, if_neg h4]
 exact ⟨by simpa using h1, hin, f, rfl, hfi.1, hf, by simpa using h4, rfl⟩
theorem check_remove {t : TR} (ht : t.Ok) {p : Str} (h : (removeM t p).2 = 0) : checkM (removeM t p).1 = true := by
 obtain ⟨hc, _, f, _, hf1, hf, hh, e⟩ := remove_ok h
 have hw := (check_wf ht).1 hc
 rw [e, check_wf (TR.ok_set (ok_empty ht) _ _)]
 exact wf_remove hw hf1 hf hh
theorem move_ok {t : TR} {p q : Str} (h : (moveM t p q).2 = 0) : checkM t = true ∧ isInnerM p = true ∧ isInnerM q = true ∧ ∃ a d : Nat, findM t p = ((a : Int), 0) ∧ 1 ≤ a ∧ a < 8 ∧ (t.n a).kind ≠ 0 ∧ findM t (splitM q).1 = ((d : Int), 0) ∧ d < 8 ∧ (t.n d).kind = 1 ∧ underFrom t (a : Int) 8 (d : Int) = false ∧ childM t (d : Int) (splitM q).2 < 0 ∧ (moveM t p q).1 = t.set a { t.n a with parent := (d : Int), name := (splitM q).2 } := by
 unfold moveM at h ⊢
 split at h
 ·cases h
 rename_i h1
 split at h
 ·cases h
 rename_i h2
 split at h
 ·rename_i h3; exact absurd h h3
 rename_i h3
 obtain ⟨a, ha, hfa⟩ := findM_range (t := t) (p := p) (by simpa using h3)
 split at h
 ·rename_i h4; exact absurd h h4
 rename_i h4
 obtain ⟨d, hd, hk, hkd, hfd⟩ := kindOf_err h4
 rw [hfa, hk] at h
 split at h
 ·cases h
 rename_i h5
 split at h
 ·cases h
 rename_i h6
 have hin : isInnerM p = true := by simpa using fun e => h2 (.inl e)
 have hfi := find_inner hin hfa
 rw [if_neg h1, if_neg h2, if_neg h3, if_neg h4, hfa, hk, if_neg h5, if_neg h6]
 exact ⟨by simpa using h1, hin, by simpa using fun e => h2 (.inr e), a, d, rfl, hfi.1, ha, hfi.2.2.1, hfd, hd, hkd, by simpa using h5, by dsimp only at h6; omega, rfl⟩
theorem check_move {t : TR} (ht : t.Ok) {p q : Str} (h : (moveM t p q).2 = 0) : checkM (moveM t p q).1 = true := by
 obtain ⟨hc, _, hin, a, d, _, ha1, ha, hka, _, hd, hkd, hu, hch, e⟩ := move_ok h
 have hw := (check_wf ht).1 hc
 rw [e, check_wf (TR.ok_set ht _ _)]
 exact wf_move hw ha1 ha (kind_nz hka) hd hkd (split_names hin).2.1 hch hu
theorem write_ok {t : TR} {p : Str} {a : Int} {l : Str} {qu : Int} (h : (writeM t p a l qu).2 = 0) : checkM t = true ∧ ∃ f o : Nat, findM t p = ((f : Int), 0) ∧ f < 8 ∧ (t.n f).kind = 2 ∧ a = (o : Int) ∧ (o : Int) + l.length ≤ 80 ∧
  ((l.length = 0 ∧ (writeM t p a l qu).1 = t) ∨ (l.length ≠ 0 ∧ ∃ u, growM t f (most (t.n f).size ((o : Int) + l.length)) qu = some u ∧ (writeM t p a l qu).1 = pokesM u f o l)) := by
 unfold writeM at h ⊢
 split at h
 ·cases h
 rename_i h1
 split at h
 ·rename_i h3; exact absurd h h3
 rename_i h3
 obtain ⟨f, hf, hk, hkf, hff⟩ := kindOf_err h3
 split at h
 ·cases h
 rename_i h4
 split at h
 ·cases h
 rename_i h5
 obtain ⟨o, rfl⟩ : ∃ o : Nat, a = o := ⟨a.toNat, by omega⟩
 rw [if_neg h1, if_neg h3, if_neg h4, if_neg h5]
 refine ⟨by simpa using h1, f, o, hff, hf, hkf, rfl, by omega, ?_⟩
 split at h
 ·rename_i h6
  exact .inl ⟨h6, by rw [if_pos h6]⟩
 rename_i h6
 right
 rw [if_neg h6]
 rw [hk] at h ⊢
 refine ⟨h6, ?_⟩
 cases hg : growM t f (most (t.n f).size ((o : Int) + l.length)) qu with
 | none =>
  have : growM t ((f : Int), (0 : Int)).1.toNat (most (t.n ((f : Int), (0 : Int)).1.toNat).size ((o : Int) + l.length)) qu = none := hg
  rw [this] at h
  cases h
 | some u =>
  have : growM t ((f : Int), (0 : Int)).1.toNat (most (t.n ((f : Int), (0 : Int)).1.toNat).size ((o : Int) + l.length)) qu = some u := hg
  rw [this]
  exact ⟨u, rfl, rfl⟩
theorem check_write {t : TR} (ht : t.Ok) {p : Str} {a : Int} {l : Str} {qu : Int} (h : (writeM t p a l qu).2 = 0) : checkM (writeM t p a l qu).1 = true := by
 obtain ⟨hc, f, o, _, hf, hk, rfl, ho, ⟨_, e⟩ | ⟨hl, u, hg, e⟩⟩ := write_ok h
 ·rw [e]; exact hc
 ·have hw := (check_wf ht).1 hc
  have hf1 := file_pos hw.root hk
  have hok := ok_write ht (p := p) (a := (o : Int)) (l := l) (qu := qu)
  rw [e] at hok ⊢
  have hsh := ((hw.nd f hf1 hf).resolve_left (kind_nz (by rw [hk]; decide))).sh
  unfold Shaped at hsh
  rw [check_wf hok]
  exact wf_write hw hf1 hf hk hg (by unfold most; split <;> omega) (by unfold most; split <;> omega) (by unfold most; split <;> omega)
theorem check_new : checkM TR.new = true := by decide +kernel
def byteAt (n i : Nat) : UInt8 := UInt8.ofNat (n >>> (8 * i))
def putN (n size : Nat) : List UInt8 := (List.range size).map (byteAt n)
theorem putN_len (n size : Nat) : (putN n size).length = size := by simp [putN]
theorem putN_succ (n i : Nat) : putN n (i + 1) = putN n i ++ [byteAt n i] := by simp [putN, List.range_succ]
theorem put_set (n : Nat) {i size : Nat} (h : i < size) : (u8s (putN n i ++ List.replicate (size - i) 0)).set (0 + i * 1) (.int .u8 ((n >>> (8 * i) % 2 ^ 8 : Nat) : Int)) = u8s (putN n (i + 1) ++ List.replicate (size - (i + 1)) 0) := by
 have e1 : size - i = (size - (i + 1)) + 1 := by omega
 have e2 : (Value.int .u8 ((n >>> (8 * i) % 2 ^ 8 : Nat) : Int)) = u8 (byteAt n i) := by simp [u8, byteAt]
 rw [e1, List.replicate_succ, u8s_app, u8s_app, putN_succ, u8s_app, Nat.zero_add, Nat.mul_one, e2, List.set_append_right _ _ (by rw [u8s_len, putN_len]; exact Nat.le_refl _), u8s_len, putN_len, Nat.sub_self, List.append_assoc]
 rfl
theorem rep_flat (n : Nat) (v : Value) : (List.replicate n [v]).flatten = List.replicate n v := by
 induction n with
 | zero => rfl
 | succ n ih => rw [List.replicate_succ, List.flatten_cons, ih, List.replicate_succ]; rfl
def numI (l : List UInt8) : Nat → Nat
 | 0 => 0
 | i + 1 => numI l i ||| ((l[i]?.getD 0).toNat <<< (8 * i))
def numN (l : List UInt8) : Nat := numI l l.length
theorem shl_lt (x : UInt8) (i : Nat) : x.toNat <<< (8 * i) < 2 ^ (8 * (i + 1)) := by
 rw [Nat.shiftLeft_eq, Nat.mul_add, Nat.pow_add, Nat.mul_comm]
 exact Nat.mul_lt_mul_of_pos_left (by have := x.toNat_lt; omega) (Nat.two_pow_pos _)
theorem numI_lt (l : List UInt8) : ∀ i, numI l i < 2 ^ (8 * i)
 | 0 => by simp [numI]
 | i + 1 => Nat.or_lt_two_pow (Nat.lt_of_lt_of_le (numI_lt l i) (Nat.pow_le_pow_right (by decide) (by omega))) (shl_lt _ _)
theorem numI_64 (l : List UInt8) {i : Nat} (h : i ≤ 8) : numI l i < 2 ^ 64 := Nat.lt_of_lt_of_le (numI_lt l i) (Nat.pow_le_pow_right (by decide) (by omega))
theorem shl_64 (x : UInt8) {i : Nat} (h : i < 8) : (x.toNat <<< (8 * i)) % 2 ^ 64 = x.toNat <<< (8 * i) := Nat.mod_eq_of_lt (Nat.lt_of_lt_of_le (shl_lt x i) (Nat.pow_le_pow_right (by decide) (by omega)))
section
variable {s : Ro} {w : World} {R : List Asn}
theorem Put_s {n size : Nat} (H : Holds s w R) (h1 : 1 ≤ size) (h8 : size ≤ 8) : Calls Tryz.prog 126 #[.int .u64 (n : Int), .int .i64 (size : Int)] w fun e w' => ∃ g, e = .returned (.slice (some ⟨g, 0, none⟩) (putN n size).length size) ∧ Holds s w' (row 5 1 (.slice (some ⟨g, 0, none⟩) (putN n size).length size) (putN n size).length (u8s (putN n size)) :: R) := by
 refine enter Tryz.func126 rfl Tryz.ntmps126 rfl ?_
 refine Gq8 H ?_
 refine K.make (k := size) (m := size) H rfl rfl rfl rfl rfl (Nat.le_refl _) (by omega) (by unfold maxLen; omega) ?_
 clear H
 intro gb w H
 rw [rep_flat] at H
 have H' : Holds s w (row 5 1 (.slice (some ⟨gb, 0, none⟩) size size) size (u8s (putN n 0 ++ List.replicate (size - 0) 0)) :: R) := by
  have : u8s (putN n 0 ++ List.replicate (size - 0) 0) = List.replicate size (Value.int .u8 0) := by simp [putN, u8s, u8]
  rw [this]; exact H
 clear H
 have H := H'
 clear H'
 refine Gq8 H ?_
 refine C.loopR H [6, 17, 18, 19, 20, 21, 22, 23, 24, 25, 26, 27, 28] [17] rfl (fun m vs A => ∃ i : Nat, m = size - i ∧ i ≤ size ∧ vs = [.int .i64 (i : Int)] ∧ A = row 5 1 (.slice (some ⟨gb, 0, none⟩) size size) size (u8s (putN n i ++ List.replicate (size - i) 0))) size ⟨0, rfl, Nat.zero_le _, rfl, rfl⟩ ?_
 clear H
 rintro m vs hv w A ⟨i, rfl, hi, rfl, rfl⟩ H
 by_cases hlt : i < size
 ·refine Gq8 H ?_
  refine K.mul rfl rfl rfl rfl (by omega) (by omega) ?_
  rw [show (8 : Int) * (i : Int) = ((8 * i : Nat) : Int) by omega]
  refine Gq8 H ?_
  refine B.shr ?_
  refine B.conv Tryz.underlying198 ?_
  have hln : 0 + i * 1 < (u8s (putN n i ++ List.replicate (size - i) 0)).length := by rw [u8s_len, List.length_append, putN_len, List.length_replicate]; omega
  repeat' (first | (refine X.rst H ?_ (hl := hln); clear H; intro w H) | refine Go8 H ?_ | (refine Gs8 H ?_; clear H; (try clear w); intro w H) | (refine Gn H ?_; clear H; (try clear w); intro _ w H))
  rw [put_set n hlt] at H
  exact ⟨agr, size - (i + 1), by omega, _, ⟨i + 1, rfl, by omega, rfl, rfl⟩, H⟩
 ·have hie : i = size := by omega
  subst hie
  refine Gq8 H ?_
  refine ⟨_, resT rfl, gb, ?_, ?_⟩
  ·rw [putN_len]; rfl
  ·rw [putN_len]; simpa using H
theorem number_s {l : List UInt8} {a : Option Addr} {c : Nat} (H : Holds s w R) (h : SlS s (.slice a l.length c) 1 l.length (u8s l)) (hl : l.length ≤ 8) : Calls Tryz.prog 137 #[.slice a l.length c] w fun e w' => e = .returned (.int .u64 (numN l : Int)) ∧ Holds s w' R := by
 refine enter Tryz.func137 rfl Tryz.ntmps137 rfl ?_
 refine Gq8 H ?_
 refine C.loopH H [3, 4, 5, 8, 9, 10, 11, 12, 13, 14, 15, 16, 17, 18, 19, 20] [3, 8] rfl (fun m vs => ∃ i : Nat, m = l.length - i ∧ i ≤ l.length ∧ vs = [.int .u64 (numI l i : Int), .int .i64 (i : Int)]) l.length ⟨0, rfl, Nat.zero_le _, rfl⟩ ?_
 clear H
 rintro m vs hv w ⟨i, rfl, hi, rfl⟩ H
 by_cases hlt : i < l.length
 ·obtain ⟨g, o, c', hv', _, _, hp⟩ := elemS1 h (by omega)
  cases hv'
  have pn : Pin s g (o + i * 1) (.int .u8 (l[i].toNat : Int)) := by rw [Nat.mul_one]; exact hp i hlt
  have hs : numI l (i + 1) = numI l i ||| (l[i].toNat <<< (8 * i)) := by simp only [numI]; rw [List.getElem?_eq_getElem hlt]; rfl
  have b1 := numI_64 l (i := i) (by omega)
  generalize numI l i = p at *
  generalize l[i] = x at *
  have b2 : x.toNat % 2 ^ 64 = x.toNat := Nat.mod_eq_of_lt (by have := x.toNat_lt; omega)
  have b3 := shl_64 x (i := i) (by omega)
  have b4 : x.toNat <<< (8 * i) < 2 ^ 64 := by rw [← b3]; exact Nat.mod_lt _ (by decide)
  refine Gq8 H ?_
  refine B.conv Tryz.underlying5 ?_
  rw [b2]
  repeat' (first | (refine K.mul rfl rfl rfl rfl (by omega) (by omega) ?_; rw [show (8 : Int) * (i : Int) = ((8 * i : Nat) : Int) by omega]) | (refine B.shl ?_; rw [b3]) | (refine B.bit ?_) | refine Go8 H ?_ | (refine Gs8 H ?_; clear H; (try clear w); intro w H) | (refine Gn H ?_; clear H; (try clear w); intro _ w H))
  exact ⟨agr, l.length - (i + 1), by omega, ⟨i + 1, rfl, by omega, by rw [hs]; rfl⟩, H⟩
 ·have hie : i = l.length := by omega
  subst hie
  refine Gq8 H ?_
  exact ⟨_, resT rfl, rfl, H⟩
theorem Get_s {l : List UInt8} {a : Option Addr} {c : Nat} (H : Holds s w R) (h : SlS s (.slice a l.length c) 1 l.length (u8s l)) (h1 : 1 ≤ l.length) (hl : l.length ≤ 8) : Calls Tryz.prog 134 #[.slice a l.length c] w fun e w' => e = .returned (.tuple #[.int .u64 (numN l : Int), .int .i64 0]) ∧ Holds s w' R := by
 refine enter Tryz.func134 rfl Tryz.ntmps134 rfl ?_
 refine Gq8 H ?_
 (refine X.call (number_s H h hl) ?_; (try clear H); rintro _ w ⟨rfl, H⟩; refine ⟨_, rfl, ?_⟩)
 refine Gq8 H ?_
 exact ⟨_, resTT rfl, rfl, H⟩
end
end Go.Proofs.YtgilmcpdpggikaaGreatDoor
namespace Go.Own
open Go Go.RowKit
section
variable {P : Program} {n : Nat} {ops : Array Oper} {Q : Post} {rest : List Oper} {e : Env} {w w' : World} {s : Ro} {rs : List Asn} {tt : Nat} {pp : String} {af : Array Edge} {g : Option (Nat × Bool)} {d : Nat}
theorem K.copyS {x y : Operand} {t u el : TypeId} {by_ : Nat} {zz : List Value} [E : ElC P t el 1 by_ zz] (i : Nat) {b off dl dc : Nat} {ty : TypeId} {cs : List Value} {l : List UInt8} (H : Holds s w rs) (hi : rs[i]? = some (var b ty cs)) (hk : l.length ≤ dl) (hfit : off + l.length ≤ cs.length) (hd : Nat.blt d n = true) (hx : ev e x = .slice (some ⟨b, off, none⟩) dl dc) (hy : ev e y = .string ⟨l.toArray⟩)
  (h : ∀ w', Holds s w' (rs.set i (var b ty (cs.take off ++ u8s l ++ cs.drop (off + l.length)))) → L P n ops Q rest (upd e d (.int .i64 (l.length : Int))) w') : L P n ops Q (⟨some d, .call { callee := .builtin .copy, args := #[x, y], argTypes := #[t, u] }, tt, pp, af, none⟩ :: rest) e w := by
 obtain ⟨v, E', _⟩ := E.el
 obtain ⟨inf, i1, i2, i3, i4⟩ := E'.info
 have hg := H.var hi
 have hmin : Nat.min l.length dl = l.length := Nat.min_eq_left hk
 have hss : (⟨l.toArray⟩ : ByteArray).size = l.length := by simp [ByteArray.size]
 have hst := run_storeCells_at (P := P) b off ty (u8s l) 0 cs.toArray w hg (by rw [u8s_len]; simpa using hfit) (u8s_one l)
 rw [u8s_len, Nat.add_zero] at hst
 have hfc : (((⟨l.toArray⟩ : ByteArray).extract 0 l.length).data.map fun b => Value.int .u8 b.toNat) = (u8s l).toArray := by
  simp [ByteArray.data_extract, u8s, u8]
 have hrun : (Builtin.copy_ #[t, u] tt #[.slice (some ⟨b, off, none⟩) dl dc, .string ⟨l.toArray⟩]).run P w = .ok (.int .i64 (l.length : Int)) (w.setRow b (cs.take off ++ u8s l ++ cs.drop (off + l.length)).toArray) := by
  have hi1 : (P.info? el).map (·.size) = some 1 := by rw [i1]; simp [i3]
  have hsz : inf.size = 1 := by simpa [i1] using hi1
  have hst' : (storeCells ⟨b, off, none⟩ (u8s l)).run P w = .ok () (w.setRow b (cs.take off ++ u8s l ++ cs.drop (off + l.length)).toArray) := by simpa using hst
  simp only [Builtin.copy_, List.getElem?_toArray, List.getElem?_cons_zero, List.getElem?_cons_succ, Sem.run_bind, run_underlying E'.slice, Result.andThen_ok, Builtin.lenOf, Sem.run_pure, hss, hmin, sizeOf, typeInfo, Builtin.firstCells, hfc]
  simp [i1, hsz, hst', goInt]
 refine L.val (o := ⟨some d, .call { callee := .builtin .copy, args := #[x, y], argTypes := #[t, u] }, tt, pp, af, none⟩) _ _ rfl hd ?_ (h _ (H.setVar hi (cs.take off ++ u8s l ++ cs.drop (off + l.length))))
 unfold execOp
 simp only [resolve, invoke, builtin, Sem.run_bind, Sem.run_pure, Result.andThen_ok, List.map_toArray, List.map_cons, List.map_nil, hx, hy, hrun]
end
end Go.Own
