/- Squeezed copy of the texts Na. -/
import Derived.Test.YtgilmcpdpggikaaGreatDoorZPh
set_option maxRecDepth 100000
set_option maxHeartbeats 1000000
set_option linter.unusedSimpArgs false
set_option linter.unusedVariables false
namespace Go.Proofs.YtgilmcpdpggikaaGreatDoor
open Go Go.RowKit Go.Own
theorem run_freeN {N f c : Nat} (hc : 52 ≤ c) (hf : f + c ≤ N) (hN : N ≤ 1000) : ∀ (l : List St) {d : DM}, Fr0 N d → l.all okS = true → (run ((f : Int), (c : Int)) l d).2 = 0 ∧ Fr0 N (run ((f : Int), (c : Int)) l d).1
 | [], d, h, _ => ⟨rfl, h⟩
 | .w a b :: r, d, h, hok => by
  rw [List.all_cons, Bool.and_eq_true] at hok
  obtain ⟨ho, hr⟩ := hok
  unfold okS at ho
  rw [Bool.and_eq_true, decide_eq_true_eq, decide_eq_true_eq] at ho
  have hw : pwrite d ((f : Int), (c : Int)) (a : Int) b = (wr1 d (f + a) b, 0) := h.pwrite (c := c) (by omega) hf hN ho.2
  rw [run_ok _ (by rw [hw]), hw]
  exact run_freeN hc hf hN r (h.wr1 (f + a) b) hr
 | .f :: r, d, h, hok => by
  rw [List.all_cons, Bool.and_eq_true] at hok
  obtain ⟨hf1, hf2, _, _⟩ := h.flush
  rw [run_fok _ hf1]
  exact run_freeN hc hf hN r hf2 hok.2
theorem fmt_lt (a : Nat) (b : List UInt8) (h : St.w a b ∈ formatSteps) : a < 52 := by
 have := List.all_eq_true.1 fmt_ok _ h
 unfold okS at this
 rw [Bool.and_eq_true, decide_eq_true_eq] at this
 exact this.1
theorem fmt_gen {N f c : Nat} {d : DM} (hfr : Fr0 N d) (hp : d.pend = []) (hc : 52 ≤ c) (hf : f + c ≤ N) (hN : N ≤ 1000) (hz : secF f d 0 = z64) : (run ((f : Int), (c : Int)) formatSteps d).2 = 0 ∧ WInv N f (run ((f : Int), (c : Int)) formatSteps d).1 awM ∧ Fr0 N (run ((f : Int), (c : Int)) formatSteps d).1 ∧ ∀ k, (k < f ∨ f + 52 ≤ k) → (run ((f : Int), (c : Int)) formatSteps d).1.sec k = d.sec k := by
 obtain ⟨hfree, hfr2⟩ := run_freeN hc hf hN formatSteps hfr fmt_ok
 have hout : ∀ k, (k < f ∨ f + 52 ≤ k) → (run ((f : Int), (c : Int)) formatSteps d).1.sec k = d.sec k := fun k hk => by
  have hF := From.run (P := fun k _ => f ≤ k ∧ k < f + 52) (f := f) (c := c) formatSteps d (by rw [hp]; intro p h; cases h) (fun a b h => ⟨by omega, by have := fmt_lt a b h; omega⟩)
  rcases hF.sec k with h | h
  ·exact h
  ·omega
 refine ⟨hfree, ?_, hfr2, hout⟩
 clear hout hfr2
 rw [run_c hc _ _ fmt_lt] at hfree ⊢
 have hf' : f + 52 ≤ N := by omega
 rw [formatSteps_eq] at hfree ⊢
 have hnl := hfr.len
 have hok : ∀ p ∈ fmtQ, p.1 < 52 ∧ p.2.length = 64 := fun p hp => by
  rcases fmtQ_mem hp with ⟨i, hi, rfl⟩ | ⟨i, hi, rfl⟩
  ·exact ⟨by dsimp only; omega, rfl⟩
  ·exact ⟨by dsimp only; omega, secW_len (by rw [List.length_append, getP_len (ps := z640) List.length_replicate (by omega)]; simp)⟩
 have hok2 : ∀ p ∈ [(1, headB 1 0)], p.1 < 52 ∧ p.2.length = 64 := fun p hp => by
  rw [List.mem_singleton] at hp
  subst hp
  exact ⟨by decide, secW_len (by simp)⟩
 rcases run_phase (N := N) (f := f) hf' hN (wS [(1, headB 1 0)] ++ .f :: []) fmtQ d hfr.off hnl hok with ⟨d1, a1, a2, a3, a4⟩ | ⟨d1, _, a4⟩
 rotate_left
 ·rw [a4] at hfree; exact absurd hfree (by dsimp only; decide)
 rw [a4] at hfree ⊢
 rw [hp] at a3
 have hl1 : d1.secs.length = N := by rw [a3, layAll_len]; exact hnl
 rcases run_phase (N := N) (f := f) hf' hN [] [(1, headB 1 0)] d1 a1 hl1 hok2 with ⟨d2, b1, b2, b3, b4⟩ | ⟨d2, _, b4⟩
 rotate_left
 ·rw [b4] at hfree; exact absurd hfree (by dsimp only; decide)
 rw [b4]
 rw [a2] at b3
 have hl2 : d2.secs.length = N := by rw [b3, layAll_len]; exact hl1
 change WInv N f d2 awM
 have h34 : ∀ j, j < 18 → secF f d2 (34 + j) = z64 := fun j hj => by
  refine lay_in b3 hl1 (by omega) (fun p hp e => ?_) (.inr ?_)
  ·rw [List.mem_singleton] at hp; subst hp; dsimp only at e; omega
  refine lay_in a3 hnl (by omega) (fun p hp e => ?_) (.inl ⟨(34 + j, z64), List.mem_append_left _ (List.mem_map.2 ⟨j, List.mem_range'_1.2 ⟨Nat.zero_le _, by omega⟩, rfl⟩), rfl⟩)
  rcases fmtQ_mem hp with ⟨i, hi, rfl⟩ | ⟨i, hi, rfl⟩
  ·rfl
  ·dsimp only at e; omega
 have hpg : ∀ i, i < 16 → secF f d2 (2 + i) = pageB 1 i z640 := fun i hi => by
  refine lay_in b3 hl1 (by omega) (fun p hp e => ?_) (.inr ?_)
  ·rw [List.mem_singleton] at hp; subst hp; dsimp only at e; omega
  refine lay_in a3 hnl (by omega) (fun p hp e => ?_) (.inl ⟨(2 + 16 * 0 + i, pageB 1 i z640), List.mem_append_right _ (hW_has (Nat.zero_le _) (by omega)), by simp⟩)
  rcases fmtQ_mem hp with ⟨j, hj, rfl⟩ | ⟨j, hj, rfl⟩
  ·dsimp only at e; omega
  ·dsimp only at e
   have : j = i := by omega
   subst this; rfl
 have h0 : secF f d2 0 = z64 := by
  refine lay_in b3 hl1 (by omega) (fun p hp e => ?_) (.inr ?_)
  ·rw [List.mem_singleton] at hp; subst hp; dsimp only at e; omega
  refine lay_in a3 hnl (by omega) (fun p hp e => ?_) (.inr hz)
  rcases fmtQ_mem hp with ⟨j, hj, rfl⟩ | ⟨j, hj, rfl⟩ <;> (dsimp only at e; omega)
 refine ⟨b1, b2, hl2, ⟨by decide, by decide, by decide, List.length_replicate, rfl, ?_, fun e' h' hc => ?_, ⟨z640, List.length_replicate, fun i hi => ?_, ?_⟩, fun k e' hk _ => ?_, fun k _ hk => ?_⟩⟩
 ·exact lay_in b3 hl1 (by show f + 1 < N; omega) (fun p hp e => by rw [List.mem_singleton] at hp; subst hp; rfl) (.inl ⟨_, List.mem_singleton.2 rfl, rfl⟩)
 ·have hc' : candW (secF f d2 0) 0 = some (e', h') := hc
  rw [h0, cand_z64] at hc'
  cases hc'
 ·exact hpg i hi
 ·exact recsC_end 18 0 z640 0 [] (fun j _ hj => by rw [h34 j (by omega), rec_z64]; simp)
 ·rw [h34 k hk, rec_z64]; simp
 ·rw [h34 k hk, rec_z64]; simp
theorem LgC.congr {c c' : Nat → List UInt8} {m : WL} (h : LgC c m) (hc : ∀ k, k < 52 → c' k = c k) : LgC c' m := h.home_any (fun k hk _ => hc k hk)
abbrev XK (f : Nat) : Ext := ((f : Int), ((53 : Nat) : Int))
structure FI (K f : Nat) (d : DM) (m : WL) (t : TR) (hs : List Hd) (S : TR) : Prop where
 inv : WInv 110 f d m
 ep : m.epoch ≤ K
 ok : t.Ok
 chk : checkM t = true
 hok : HOk hs
 sok : S.Ok
 schk : checkM S = true
 tree : treeOf m.pages = (S, 0)
section
variable {K f g : Nat} {d d' : DM} {m m' : WL} {t t' S S' : TR} {hs hs' : List Hd}
theorem FI.other (h : FI K f d m t hs S) (ho : d'.off = false) (hp : d'.pend = []) (hl : d'.secs.length = 110) (hc : ∀ k, k < 52 → d'.sec (f + k) = d.sec (f + k)) : FI K f d' m t hs S :=
 ⟨⟨ho, hp, hl, h.inv.log.congr hc⟩, h.ep, h.ok, h.chk, h.hok, h.sok, h.schk, h.tree⟩
theorem FI.mono {L : Nat} (h : FI K f d m t hs S) (hk : K ≤ L) : FI L f d m t hs S := ⟨h.inv, Nat.le_trans h.ep hk, h.ok, h.chk, h.hok, h.sok, h.schk, h.tree⟩
theorem FI.put (h : FI K f d m t hs S) (ht : t'.Ok) (hc : checkM t' = true) (hh : HOk hs') : FI K f d m t' hs' S := ⟨h.inv, h.ep, ht, hc, hh, h.sok, h.schk, h.tree⟩
theorem FI.arm (h : FI K f d m t hs S) (n : Int) (sv : List Bool) : FI K f (d.arm n sv) m t hs S := ⟨h.inv.arm n sv, h.ep, h.ok, h.chk, h.hok, h.sok, h.schk, h.tree⟩
theorem FI.opens (h : FI K f d m t hs S) (hf : f + 52 ≤ 110) : openM d (XK f) = (some m, 0) ∧ ∀ k : Nat, k < 52 → (pread d (XK f) (k : Int)).2 = 0 := h.inv.opens_c hf (by decide) (by decide)
theorem sync_out {c k : Nat} (hp : d.pend = []) (hm : m.home ≤ 1) (hc : 52 ≤ c) (hk : k < f ∨ f + 52 ≤ k) : (syncM d ((f : Int), (c : Int)) m t).1.sec k = d.sec k := by
 unfold syncM
 split
 ·rfl
 ·rw [commit_c hc hm]; exact commit_out hp hm hk
theorem FI.sync (h : FI K f d m t hs S) (h' : FI K g d m' t' hs' S') (hf : f + 52 ≤ 110) (hfg : f + 52 ≤ g ∨ g + 52 ≤ f) (hK : K < 4294967295) :
  ((syncM d (XK f) m t).2.2 = 0 ∧ FI (K + 1) f ((syncM d (XK f) m t).1.arm (-1) []) (syncM d (XK f) m t).2.1 t hs t ∧ FI (K + 1) g ((syncM d (XK f) m t).1.arm (-1) []) m' t' hs' S') ∨
  ((syncM d (XK f) m t).2.2 = 9 ∧ ∃ m2 T, (T = S ∨ T = t) ∧ FI (K + 1) f ((syncM d (XK f) m t).1.arm (-1) []).power m2 T (List.replicate 4 Hd.zero) T ∧ FI (K + 1) g ((syncM d (XK f) m t).1.arm (-1) []).power m' S' (List.replicate 4 Hd.zero) S') := by
 have hep := h.ep
 have hE := sync_ends (c := 53) h.ok h.chk h.inv hf (by decide) (by decide) (by omega)
 have hout : ∀ k, k < 52 → (syncM d (XK f) m t).1.sec (g + k) = d.sec (g + k) := fun k hk => sync_out h.inv.pend h.inv.log.home (by decide) (by omega)
 have e' : syncM d ((f : Int), ((53 : Nat) : Int)) m t = syncM d (XK f) m t := rfl
 rw [e'] at hE
 generalize syncM d (XK f) m t = r at *
 rcases hE with ⟨e0, e1, e2, e3⟩ | ⟨e0, e1, e2, m3, e3, e4, e5⟩
 ·exact .inl ⟨e0, ⟨e1.arm _ _, by omega, h.ok, h.chk, h.hok, h.ok, h.chk, by rw [e2]; exact tree_flat h.ok h.chk⟩, ((h'.other e1.off e1.pend e1.len hout).arm _ _).mono (by omega)⟩
 ·have hI3 := calm_inv e4 e1.len
  have hI4 := calm_inv (h'.inv.log.congr (c' := secF g r.1) hout) e1.len
  have hep' := h'.ep
  refine .inr ⟨e0, ?_⟩
  rcases e3 with e3 | e3
  ·exact ⟨m3, S, .inl rfl, ⟨hI3, by omega, h.sok, h.schk, HOk.rep, h.sok, h.schk, by rw [e3]; exact h.tree⟩, ⟨hI4, by omega, h'.sok, h'.schk, HOk.rep, h'.sok, h'.schk, h'.tree⟩⟩
  ·exact ⟨m3, t, .inr rfl, ⟨hI3, by omega, h.ok, h.chk, HOk.rep, h.ok, h.chk, by rw [e3]; exact tree_flat h.ok h.chk⟩, ⟨hI4, by omega, h'.sok, h'.schk, HOk.rep, h'.sok, h'.schk, h'.tree⟩⟩
end
def dA : DM := (run (XK 0) formatSteps (DM.new 110)).1
def dB : DM := (run (XK 54) formatSteps dA).1
theorem new_sec {n k : Nat} (h : k < n) : (DM.new n).sec k = z64 := by
 unfold DM.sec DM.new
 simp only [List.getElem?_replicate]
 rw [if_pos h]; rfl
theorem dA_f : (run (XK 0) formatSteps (DM.new 110)).2 = 0 ∧ WInv 110 0 dA awM ∧ Fr0 110 dA ∧ ∀ k, 52 ≤ k → k < 110 → dA.sec k = z64 := by
 obtain ⟨h1, h2, h3, h4⟩ := fmt_gen (f := 0) (c := 53) (N := 110) (d := DM.new 110) Fr0.new rfl (by decide) (by decide) (by decide) (new_sec (by decide))
 exact ⟨h1, h2, h3, fun k hk hk2 => (h4 k (.inr (by omega))).trans (new_sec hk2)⟩
theorem dB_g {d : DM} (a2 : WInv 110 0 d awM) (a3 : Fr0 110 d) (a4 : d.sec 54 = z64) : (run (XK 54) formatSteps d).2 = 0 ∧ WInv 110 54 (run (XK 54) formatSteps d).1 awM ∧ WInv 110 0 (run (XK 54) formatSteps d).1 awM := by
 obtain ⟨h1, h2, h3, h4⟩ := fmt_gen (f := 54) (c := 53) (N := 110) (d := d) a3 a2.pend (by decide) (by decide) (by decide) a4
 generalize hr : run (((54 : Nat) : Int), ((53 : Nat) : Int)) formatSteps d = r at h1 h2 h3 h4
 exact ⟨h1, h2, h2.off, h2.pend, h2.len, a2.log.congr (fun k hk => h4 (0 + k) (.inl (by omega)))⟩
theorem dB_f : (run (XK 54) formatSteps dA).2 = 0 ∧ WInv 110 54 dB awM ∧ WInv 110 0 dB awM := dB_g dA_f.2.1 dA_f.2.2.1 (dA_f.2.2.2 54 (by decide) (by decide))
theorem fi_start {f : Nat} {d : DM} (h : WInv 110 f d awM) : FI 1 f d awM TR.new (List.replicate 4 Hd.zero) TR.new := ⟨h, Nat.le_refl _, TR.ok_new, check_new, HOk.rep, TR.ok_new, check_new, tree_blank⟩
end Go.Proofs.YtgilmcpdpggikaaGreatDoor
