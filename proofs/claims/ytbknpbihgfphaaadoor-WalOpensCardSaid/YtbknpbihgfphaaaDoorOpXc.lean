/- law16: WalFull, plain: a log of a great epoch. WalFull, walked. law16: WalOpens, plain: what an opened log is. -/
import Derived.Test.YtbknpbihgfphaaaDoorOpXb
set_option linter.unusedSimpArgs false
set_option linter.unusedVariables false
namespace Go.Proofs.YtbknpbihgfphaaaDoor
open Go Go.RowKit Go.Own
end Go.Proofs.YtbknpbihgfphaaaDoor
set_option linter.unusedSimpArgs false
set_option linter.unusedVariables false
namespace Go.Proofs.YtbknpbihgfphaaaDoor
open Go Go.RowKit Go.Own
/-- what the document's Commit gives -/
def GotC (f : Nat) (r : DM × WL × Int) (s : Ro) (cs : List Value) : Prop := ∃ pa pc, RefW s cs r.1 f pa 16 pc r.2.1.epoch r.2.1.home r.2.1.used r.2.1.dead ∧ SlS s (.slice pa 16 pc) 1 16 (strs (pgsOf r.2.1.pages))
theorem GotC.mono {f : Nat} {r : DM × WL × Int} {s s' : Ro} {cs : List Value} (hs : s.Le s') (h : GotC f r s cs) : GotC f r s' cs := by
  obtain ⟨pa, pc, h1, h2⟩ := h
  exact ⟨pa, pc, h1.mono hs, h2.mono hs⟩
def ChV (l : List Ch) (s : Ro) (v : Value) : Prop := ∃ cs, SlS s v 2 l.length cs ∧ ChS s cs l
theorem ChV.mono {l : List Ch} {s s' : Ro} {v : Value} (hs : s.Le s') (h : ChV l s v) : ChV l s' v := by
  obtain ⟨cs, h1, h2⟩ := h
  exact ⟨cs, h1.mono hs, h2.mono hs⟩
def TupC (f : Nat) (r : DM × WL × Int) (s : Ro) (v : Value) : Prop := ∃ cs, v = .tuple #[.agg cs.toArray, .int .i64 r.2.2] ∧ GotC f r s cs
theorem TupC.mono {f : Nat} {r : DM × WL × Int} {s s' : Ro} {v : Value} (hs : s.Le s') (h : TupC f r s v) : TupC f r s' v := by
  obtain ⟨cs, h1, h2⟩ := h
  exact ⟨cs, h1, h2.mono hs⟩
def AggC (f : Nat) (r : DM × WL × Int) (s : Ro) (v : Value) : Prop := ∃ cs, v = .agg cs.toArray ∧ GotC f r s cs
theorem AggC.mono {f : Nat} {r : DM × WL × Int} {s s' : Ro} {v : Value} (hs : s.Le s') (h : AggC f r s v) : AggC f r s' v := by
  obtain ⟨cs, h1, h2⟩ := h
  exact ⟨cs, h1, h2.mono hs⟩
theorem GotC.cells {f : Nat} {r : DM × WL × Int} {s : Ro} {cs : List Value} (h : GotC f r s cs) : ∃ x0 m0 y0 x1 m1 y1 bo li x2 m2 y2 gf pa pn pc e hh u dd, cs = [.slice x0 m0 y0, .slice x1 m1 y1, .bool bo, .int .i64 li, .slice x2 m2 y2, .int .i64 gf, .slice pa pn pc, .int .u32 e, .int .i64 hh, .int .i64 u, .bool dd] := by
  obtain ⟨pa, pc, ⟨a0, c0, a1, c1, lf, a2, n2, c2, rfl, _⟩, _⟩ := h
  exact ⟨_, _, _, _, _, _, _, _, _, _, _, _, _, _, _, _, _, _, _, rfl⟩
section
variable {s : Ro} {w : World} {R : List Asn}
theorem rdg_bytes8 {P : Program} {w : World} {t e : TypeId} {v : Value} (hu : P.underlying t = some (.slice e)) (he : P.underlying e = some (.int .u8)) (hc : P.cellsOf e = 1) (h : Rdg P w t [v]) : ∃ l : List UInt8, Sl w v 1 l.length (u8s l) ∧ l.length * P.bytesOf e ≤ reachBytes := by
  obtain ⟨l, h1, h2, h3⟩ := rdg_ints hu he hc h
  have he : l.map (Value.int .u8) = u8s (l.map fun n => UInt8.ofNat n.toNat) := by
    unfold u8s
    rw [List.map_map]
    refine List.map_congr_left fun n hn => ?_
    obtain ⟨x, hx⟩ := wf_u8 (h2 n hn)
    have hxe : n = (x.toNat : Int) := by unfold u8 at hx; exact (Value.int.inj hx).2
    subst hxe
    show Value.int .u8 (x.toNat : Int) = u8 (UInt8.ofNat ((x.toNat : Int)).toNat)
    rw [Int.toNat_natCast, ofNat8]; rfl
  refine ⟨l.map fun n => UInt8.ofNat n.toNat, ?_, by rw [List.length_map]; exact h3⟩
  rw [List.length_map, ← he]
  exact h1
end
end Go.Proofs.YtbknpbihgfphaaaDoor
set_option linter.unusedSimpArgs false
set_option linter.unusedVariables false
namespace Go.Proofs.YtbknpbihgfphaaaDoor
open Go Go.RowKit Go.Own
theorem pagesM_ok {d : DM} {x : Ext} {e h : Nat} : ∀ n i ps ps', i + n ≤ 16 → ps.length = 640 → pagesM d x e h n i ps = some ps' → ps'.length = 640
  | 0, i, ps, ps', _, hl, hp => by rw [pagesM] at hp; cases hp; exact hl
  | n + 1, i, ps, ps', hi, hl, hp => by
    rw [pagesM] at hp
    split at hp
    · rename_i hd
      split at hp
      · have hr := decW_len hd (by decide)
        exact pagesM_ok n (i + 1) _ _ (by omega) (setP_len hl (by simpa using hr) (by omega)) hp
      · cases hp
    · cases hp
theorem recsM_ok {d : DM} {x : Ext} {e : Nat} : ∀ n k ps u pend, n + k = 18 → u ≤ 18 → ps.length = 640 → (∀ c ∈ pend, Ch.Ok c) → (recsM d x e n k ps u pend).1.length = 640 ∧ (recsM d x e n k ps u pend).2 ≤ 18
  | 0, k, ps, u, pend, _, hu, hl, _ => ⟨hl, hu⟩
  | n + 1, k, ps, u, pend, hk, hu, hl, hok => by
    rw [recsM]
    split
    · rename_i hd
      split
      · rename_i hc
        have hr := decW_len hd (by decide)
        exact recsM_ok n (k + 1) ps u _ (by omega) hu hl (fun c hcm => by
          rcases List.mem_append.1 hcm with h | h
          · exact hok c h
          · rw [List.mem_singleton] at h
            subst h
            exact ⟨by dsimp only; omega, by dsimp only; omega, by simpa using hr⟩)
      · exact ⟨hl, hu⟩
    · split
      · split
        · exact recsM_ok n (k + 1) _ (k + 1) [] (by omega) (by omega) (applyL_len hok hl) (fun c h => by simp at h)
        · exact ⟨hl, hu⟩
      · exact ⟨hl, hu⟩
theorem accW_lt {d : DM} {x : Ext} {e h : Nat} : ∀ i, accW d x i = some (e, h) → e < 2 ^ 32
  | 0, hc => by cases hc
  | i + 1, hc => by
    have h1 : pickW (accW d x i) (candW (sec d x i) i) = some (e, h) := hc
    rcases pickW_or h1 with h2 | h2
    · exact accW_lt i h2.symm
    · exact candW_lt h2.symm
theorem openM_ok {d : DM} {x : Ext} {m : WL} {c : Int} (h : openM d x = (some m, c)) : m.epoch < 2 ^ 32 ∧ m.home ≤ 1 ∧ m.used ≤ 18 ∧ m.pages.length = 640 ∧ m.dead = false := by
  unfold openM at h
  split at h
  · cases h
  · rename_i e hh ha
    split at h
    · cases h
    · rename_i ps hp
      have h1 := pagesM_ok 16 0 z640 ps (by decide) List.length_replicate hp
      have h2 := recsM_ok (d := d) (x := x) (e := e) 18 0 ps 0 [] rfl (by decide) h1 (fun c h => by simp at h)
      cases h
      exact ⟨accW_lt 2 ha, accW_h 2 ha, h2.2, h2.1, rfl⟩
theorem GoodW.opened {d : DM} {m m0 : WL} {f : Nat} {c : Int} (h : openM d ((f : Int), 52) = (some m, c)) (hg : GoodW f d m0) : GoodW f d m := by
  obtain ⟨h1, h2, h3, h4, h5⟩ := openM_ok h
  exact ⟨hg.fr, hg.out, h1, h2, h3, h4, h5⟩
theorem GoodW.wr {d : DM} {m : WL} {f a : Nat} (hg : GoodW f d m) (ha : a < 52) (l : List UInt8) : GoodW f (wr1 d (f + a) l) m :=
  ⟨hg.fr.wr1 _ _, fun k hk ho => by rw [wr1_curW, if_neg (by omega)]; exact hg.out k hk ho, hg.ep, hg.home, hg.used, hg.pages, hg.dead⟩
/-- the sector that is written -/
def forgeB (l : List UInt8) : List UInt8 := (l.take 64) ++ List.replicate (64 - l.length) 0
theorem forgeB_len (l : List UInt8) : (forgeB l).length = 64 := by
  unfold forgeB
  rw [List.length_append, List.length_take, List.length_replicate]; omega
end Go.Proofs.YtbknpbihgfphaaaDoor
