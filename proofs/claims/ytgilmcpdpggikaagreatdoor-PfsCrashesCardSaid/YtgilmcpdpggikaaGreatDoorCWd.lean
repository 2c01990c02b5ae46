/- Squeezed copy of the texts Wd We Wf. -/
import Derived.Test.YtgilmcpdpggikaaGreatDoorCWb
set_option maxRecDepth 100000
set_option maxHeartbeats 1000000
set_option linter.unusedSimpArgs false
set_option linter.unusedVariables false
namespace Go.Proofs.YtgilmcpdpggikaaGreatDoor
open Go Go.RowKit Go.Own
structure WL where
 epoch : Nat
 home : Nat
 used : Nat
 pages : List UInt8
 dead : Bool
abbrev logW (bL bp e h u : Nat) (ps : List UInt8) (dd : Bool) : Asn := var bL 163 (.pointer (some ⟨bp, 0, none⟩) :: .int .u32 (e : Int) :: .int .i64 (h : Int) :: .int .i64 (u : Int) :: (u8s ps ++ [.bool dd]))
abbrev sec (d : DM) (x : Ext) (k : Nat) : List UInt8 := (pread d x (k : Int)).1
def candW (l : List UInt8) (at' : Nat) : Option (Nat × Nat) := match decW 72 1 l with
 | some (e, [b]) => if e % 2 = at' then (if b.toNat ≤ 1 then some (e, b.toNat) else none) else none
 | _ => none
def pickW (a b : Option (Nat × Nat)) : Option (Nat × Nat) := match a, b with
 | none, b => b
 | some a, none => some a
 | some a, some b => if a.1 < b.1 then some b else some a
def accW (d : DM) (x : Ext) : Nat → Option (Nat × Nat)
 | 0 => none
 | i + 1 => pickW (accW d x i) (candW (sec d x i) i)
theorem pickW_none (a : Option (Nat × Nat)) : pickW a none = a := by cases a <;> rfl
structure Ch where
 page : Int
 data : List UInt8
def Ch.Ok (c : Ch) : Prop := 0 ≤ c.page ∧ c.page < 16 ∧ c.data.length = 40
structure ChS (s : Ro) (cs : List Value) (l : List Ch) : Prop where
 len : cs.length = l.length * 2
 at' : ∀ i (h : i < l.length), cs[i * 2]? = some (.int .i64 l[i].page) ∧ ∃ v, cs[i * 2 + 1]? = some v ∧ SlS s v 1 l[i].data.length (u8s l[i].data)
theorem ChS.mono {s s' : Ro} {cs : List Value} {l : List Ch} (h : ChS s cs l) (hs : s.Le s') : ChS s' cs l :=
 ⟨h.len, fun i hi => ⟨(h.at' i hi).1, (h.at' i hi).2.imp fun v hv => ⟨hv.1, hv.2.mono hs⟩⟩⟩
theorem ChS.nil (s : Ro) : ChS s [] [] := ⟨rfl, fun i hi => absurd hi (Nat.not_lt_zero _)⟩
theorem ChS.snoc {s : Ro} {cs : List Value} {l : List Ch} {c : Ch} {v : Value} (h : ChS s cs l) (hv : SlS s v 1 c.data.length (u8s c.data)) : ChS s (cs ++ [.int .i64 c.page, v]) (l ++ [c]) := by
 have hlen := h.len
 refine ⟨by simp [h.len]; omega, fun i hi => ?_⟩
 rw [List.length_append] at hi
 by_cases hlt : i < l.length
 ·rw [List.getElem_append_left hlt, List.getElem?_append_left (by omega), List.getElem?_append_left (by omega)]
  exact h.at' i hlt
 ·have hie : i = l.length := by simp at hi; omega
  subst hie
  rw [List.getElem_append_right (Nat.le_refl _), List.getElem?_append_right (by omega), List.getElem?_append_right (by omega), hlen]
  simp only [Nat.sub_self, Nat.add_sub_cancel_left]
  exact ⟨rfl, v, rfl, hv⟩
def setP (ps : List UInt8) (p : Nat) (b : List UInt8) : List UInt8 := ps.take (p * 40) ++ (b ++ ps.drop (p * 40 + 40))
theorem setP_len {ps b : List UInt8} {p : Nat} (hl : ps.length = 640) (hb : b.length = 40) (hp : p < 16) : (setP ps p b).length = 640 := by
 unfold setP
 rw [List.length_append, List.length_append, List.length_take, List.length_drop]; omega
def applyL (ps : List UInt8) (l : List Ch) : List UInt8 := l.foldl (fun q c => setP q c.page.toNat c.data) ps
theorem applyL_len {l : List Ch} (hv : ∀ c ∈ l, c.Ok) : ∀ {ps : List UInt8}, ps.length = 640 → (applyL ps l).length = 640 := by
 induction l with
 | nil => intro ps h; exact h
 | cons c r ih =>
  intro ps h
  have hc := hv c (by simp)
  have h1 := hc.1
  have h2 := hc.2.1
  exact ih (fun c hc => hv c (by simp [hc])) (setP_len h hc.2.2 (by omega))
theorem put_page {pre post : List Value} {ps b : List UInt8} {p off : Nat} (ho : pre.length = off) (hl : ps.length = 640) (hb : b.length = 40) (hp : p < 16) : (pre ++ (u8s ps ++ post)).take (off + p * 40) ++ ((u8s b).take 40 ++ (pre ++ (u8s ps ++ post)).drop (off + p * 40 + 40)) = pre ++ (u8s (setP ps p b) ++ post) := by
 have h1 : (u8s ps).length = 640 := by rw [u8s_len, hl]
 have h2 : (u8s b).length = 40 := by rw [u8s_len, hb]
 rw [List.take_of_length_le (l := u8s b) (by omega), List.take_append, List.take_of_length_le (by omega), ho, Nat.add_sub_cancel_left, List.take_append_of_le_length (by omega), List.drop_append, List.drop_eq_nil_of_le (by omega), List.nil_append, ho, show off + p * 40 + 40 - off = p * 40 + 40 by omega, List.drop_append_of_le_length (by omega), setP, u8s_app, u8s_app, u8s_take, u8s_drop]
 simp only [List.append_assoc]
section
variable {s : Ro} {w : World} {R : List Asn} {b bp : Nat} {d : DM} {x : Ext}
theorem readHead_l {bL : Nat} (hN : Nib s) (H : Holds s w (logW bL bp 0 0 0 z640 false :: dsk b d :: R)) (hp : PartS s bp b x) (hon : ∀ k : Nat, k < 52 → (pread d x (k : Int)).2 = 0) : Calls Tryz.prog 83 #[.pointer (some ⟨bL, 0, none⟩)] w fun y w' => ∃ s', s.Le s' ∧ Holds s' w' (logW bL bp ((accW d x 2).getD (0, 0)).1 ((accW d x 2).getD (0, 0)).2 0 z640 false :: dsk b d :: R) ∧ y = .returned (.int .i64 (if (accW d x 2).isSome then 0 else 6)) := by
 have hwf : d.Wf := Holds.wf H.tail
 unfold logW at H
 refine enter Tryz.func83 rfl Tryz.ntmps83 rfl ?_
 refine Gq8 H ?_
 refine C.loopS [2, 3, 4, 5, 6, 7, 8, 9, 10, 11, 12, 13, 14, 15, 16, 17, 18, 19, 20, 21, 22, 23, 24, 25, 26, 27, 28, 29, 30, 31, 32, 33, 34, 35, 36, 37, 38, 39, 40, 41, 42, 43, 44, 45, 46, 47, 48, 49, 50, 51, 52, 53, 54, 55, 56, 57, 58, 59, 60, 61] [3, 10] rfl (fun k vs w => ∃ i : Nat, ∃ s', k = 2 - i ∧ i ≤ 2 ∧ vs = [.bool (accW d x i).isSome, .int .i64 (i : Int)] ∧ s.Le s' ∧ Holds s' w (logW bL bp ((accW d x i).getD (0, 0)).1 ((accW d x i).getD (0, 0)).2 0 z640 false :: dsk b d :: R)) 2 ⟨0, s, rfl, Nat.zero_le _, rfl, Ro.Le.refl _, H⟩ ?_
 clear H
 rintro k vs hv w ⟨i, s1, rfl, hi, rfl, hs1, H⟩
 unfold logW at H
 by_cases hlt : i < 2
 ·have hacc : accW d x (i + 1) = pickW (accW d x i) (candW (sec d x i) i) := rfl
  refine Gq8 H ?_
  replace H : Holds _ _ (dsk b _ :: _) := tp H
  have hR := Read_p (a := (i : Int)) H (hp.mono hs1) (by unfold I64; omega)
  have h64 := pread_64 (d := d) (x := x) (a := (i : Int)) hwf (hon i (by omega))
  unfold sec at hacc
  rw [hon i (by omega)] at hR
  generalize (pread d x (i : Int)).1 = l at *
  generalize accW d x i = acc at *
  (refine X.call (hR) ?_; (try clear H); rintro _ w ⟨t1, a1, c1, rfl, H⟩; refine ⟨_, rfl, ?_⟩)
  clear hR
  refine Gq8 H ?_
  refine X.call (readHead_w (l := l) (hN.mono hs1) H (.own 0 _ rfl) (by omega)) ?_
  clear H
  rintro _ w ⟨s2, hs2, H, (⟨hd, rfl⟩ | ⟨e, q, hd, rfl⟩)⟩
  ·refine ⟨_, rfl, ?_⟩
   rw [candW, hd, pickW_none] at hacc
   refine Gq8 H ?_
   have H' := H.arr (rs' := logW bL bp (acc.getD (0, 0)).1 (acc.getD (0, 0)).2 0 z640 false :: dsk b d :: R)
   exact ⟨agr, 2 - (i + 1), by omega, i + 1, s2, rfl, by omega, by rw [hacc]; rfl, hs1.trans hs2, by rw [hacc]; exact H'⟩
  ·refine ⟨_, rfl, ?_⟩
   have he := decW_lt hd
   have hc1 : candW l i = if e % 2 = i then (if q.toNat ≤ 1 then some (e, q.toNat) else none) else none := by rw [candW, hd]
   rw [hc1] at hacc
   refine Gq8 H ?_
   (refine X.call (headAt_w (e := e) H he) ?_; (try clear H); rintro _ w ⟨rfl, H⟩; refine ⟨_, rfl, ?_⟩)
   by_cases h1 : e % 2 = i
   ·rw [if_pos h1] at hacc
    by_cases h2 : q.toNat ≤ 1
    ·rw [if_pos h2] at hacc
     cases acc with
     | none =>
      (refine Gq8 H ?_; clear H; (try clear w); intro w H)
      have H' := H.arr (rs' := logW bL bp e q.toNat 0 z640 false :: dsk b d :: R)
      exact ⟨agr, 2 - (i + 1), by omega, i + 1, s2, rfl, by omega, by rw [hacc]; rfl, hs1.trans hs2, by rw [hacc]; exact H'⟩
     | some a0 =>
      dsimp only [Option.getD_some, Option.isSome_some] at H ⊢
      by_cases h3 : a0.1 < e
      ·have hacc2 : accW d x (i + 1) = some (e, q.toNat) := by rw [hacc]; unfold pickW; exact if_pos h3
       (refine Gq8 H ?_; clear H; (try clear w); intro w H)
       have H' := H.arr (rs' := logW bL bp e q.toNat 0 z640 false :: dsk b d :: R)
       exact ⟨agr, 2 - (i + 1), by omega, i + 1, s2, rfl, by omega, by rw [hacc2]; rfl, hs1.trans hs2, by rw [hacc2]; exact H'⟩
      ·have hacc2 : accW d x (i + 1) = some a0 := by rw [hacc]; unfold pickW; exact if_neg h3
       refine Gq8 H ?_
       have H' := H.arr (rs' := logW bL bp a0.1 a0.2 0 z640 false :: dsk b d :: R)
       exact ⟨agr, 2 - (i + 1), by omega, i + 1, s2, rfl, by omega, by rw [hacc2]; rfl, hs1.trans hs2, by rw [hacc2]; exact H'⟩
    ·rw [if_neg h2, pickW_none] at hacc
     refine Gq8 H ?_
     have H' := H.arr (rs' := logW bL bp (acc.getD (0, 0)).1 (acc.getD (0, 0)).2 0 z640 false :: dsk b d :: R)
     exact ⟨agr, 2 - (i + 1), by omega, i + 1, s2, rfl, by omega, by rw [hacc]; rfl, hs1.trans hs2, by rw [hacc]; exact H'⟩
   ·rw [if_neg h1, pickW_none] at hacc
    refine Gq8 H ?_
    have H' := H.arr (rs' := logW bL bp (acc.getD (0, 0)).1 (acc.getD (0, 0)).2 0 z640 false :: dsk b d :: R)
    exact ⟨agr, 2 - (i + 1), by omega, i + 1, s2, rfl, by omega, by rw [hacc]; rfl, hs1.trans hs2, by rw [hacc]; exact H'⟩
 ·have hie : i = 2 := by omega
  subst hie
  cases hacc : accW d x 2 with
  | none =>
   rw [hacc] at H
   refine Gq8 H ?_
   exact ⟨_, resT rfl, s1, hs1, H, rfl⟩
  | some eh =>
   rw [hacc] at H
   refine Gq8 H ?_
   exact ⟨_, resT rfl, s1, hs1, H, rfl⟩
theorem apply_l {bL e h u : Nat} {ps : List UInt8} {dd : Bool} {v : Value} {cs : List Value} {l : List Ch} (H : Holds s w (logW bL bp e h u ps dd :: R)) (hc : SlS s v 2 l.length cs) (hch : ChS s cs l) (hv : ∀ c ∈ l, c.Ok) (hl : ps.length = 640) (hn : l.length ≤ 1000) : Calls Tryz.prog 104 #[.pointer (some ⟨bL, 0, none⟩), v] w fun y w' => y = .returned (.tuple #[]) ∧ Holds s w' (logW bL bp e h u (applyL ps l) dd :: R) := by
 have hc' := hc
 obtain ⟨va, vc, rfl, _⟩ := hc'
 unfold logW at H
 refine enter Tryz.func104 rfl Tryz.ntmps104 rfl ?_
 refine Gq8 H ?_
 refine C.loopS [5, 8, 9, 10, 11, 12, 13, 14, 15, 16, 17, 18, 19, 20, 21, 22] [8] rfl (fun k vs w => ∃ i : Nat, k = l.length - i ∧ i ≤ l.length ∧ vs = [.int .i64 (i : Int)] ∧ Holds s w (logW bL bp e h u (applyL ps (l.take i)) dd :: R)) l.length ⟨0, rfl, Nat.zero_le _, rfl, H⟩ ?_
 clear H
 rintro k vs hv' w ⟨i, rfl, hi, rfl, H⟩
 unfold logW at H
 by_cases hlt : i < l.length
 ·obtain ⟨g, o, c', hsv, _, _, hpin⟩ := posS hc (by omega) (by decide)
  cases hsv
  obtain ⟨h0, dv, h1, hdS⟩ := hch.at' i hlt
  have hok := hv l[i] (List.getElem_mem hlt)
  have hap : applyL ps (l.take (i + 1)) = setP (applyL ps (l.take i)) l[i].page.toNat l[i].data := by rw [List.take_succ_eq_append_getElem hlt]; unfold applyL; rw [List.foldl_append]; rfl
  have hal : (applyL ps (l.take i)).length = 640 := applyL_len (fun c hc => hv c (List.mem_of_mem_take hc)) hl
  generalize l[i] = ch at *
  obtain ⟨pg, dat⟩ := ch
  obtain ⟨ok1, ok2, ok3⟩ := hok
  dsimp only at h0 hdS hap ok1 ok2 ok3
  obtain ⟨p, rfl⟩ := Int.eq_ofNat_of_zero_le ok1
  have hdS' := hdS
  obtain ⟨da, dc, rfl, _⟩ := hdS'
  have pn : ∀ j y, [Value.int .i64 (p : Int), .slice da dat.length dc][j]? = some y → Pin s g (o + i * 2 + j) y := by
   intro j y hj
   match j, hj with
   | 0, hj => cases hj; exact hpin _ _ h0
   | 1, hj => cases hj; exact hpin _ _ h1
   | (_ + 2), hj => simp at hj
  generalize applyL ps (l.take i) = q at *
  (refine Gq8 H ?_; clear H; (try clear w); intro _ w H)
  refine C.drawn1 [0, 0, 1, 0, 0, 0, 0, 0, 1, 3] [0, 0, 2, 1, 9, 31, 63, 0, 128, 511] (by kernel_rfl) ?_; replace H := H.drew
  repeat' (first | (refine K.iaA (i := p) rfl rfl rfl rfl rfl (by omega) ?_) | refine Go8 H ?_ | (refine Gs8 H ?_; clear H; (try clear w); intro w H) | (refine Gn H ?_; clear H; (try clear w); intro _ w H))
  refine K.copyV (off := 4 + p * 40) 1 H rfl (.ro hdS) (u8s_one _) (q := 40) (by rw [ok3]; rfl) (by simp [u8s_len, hal]; omega) rfl rfl rfl ?_
  clear H
  intro w H
  rw [List.set_cons_succ, List.set_cons_zero] at H
  have H' : Holds s w (logW bL bp e h u (setP q p dat) dd :: R) := by
   have hput := put_page (pre := [.pointer (some ⟨bp, 0, none⟩), .int .u32 (e : Int), .int .i64 (h : Int), .int .i64 (u : Int)]) (post := [.bool dd]) (off := 4) rfl hal ok3 (by omega : p < 16)
   have H2 := H.tail
   unfold logW
   exact Eq.mp (congrArg (fun c => Holds s w (var bL 163 c :: R)) hput) H2
  clear H
  have H := H'
  clear H'
  refine Gq8 H ?_
  exact ⟨agr, l.length - (i + 1), by omega, i + 1, rfl, by omega, rfl, by rw [hap, Int.toNat_natCast]; exact H⟩
 ·have hie : i = l.length := by omega
  subst hie
  rw [List.take_length] at H
  refine Gq8 H ?_
  exact ⟨_, res0 rfl, rfl, H⟩
end
def recsM (d : DM) (x : Ext) (e : Nat) : Nat → Nat → List UInt8 → Nat → List Ch → List UInt8 × Nat
 | 0, _, ps, u, _ => (ps, u)
 | n + 1, k, ps, u, pend => match decW 82 42 (sec d x (34 + k)) with
  | some (e', b :: b2 :: r) => if e' = e ∧ b.toNat = k ∧ b2.toNat < 16 then recsM d x e n (k + 1) ps u (pend ++ [⟨(b2.toNat : Int), r⟩]) else (ps, u)
  | _ => match decW 67 1 (sec d x (34 + k)) with
   | some (e', [b]) => if e' = e ∧ b.toNat = k then recsM d x e n (k + 1) (applyL ps pend) (k + 1) [] else (ps, u)
   | _ => (ps, u)
theorem build_change (p : Int) (a : Option Addr) (n c : Nat) (w : World) : (Instr.build 159 [(0, .int .i64 p), (1, .slice a n c)].toArray).run Tryz.prog w = .ok (.agg #[.int .i64 p, .slice a n c]) w := by kernel_rfl
section
variable {s : Ro} {w : World} {R : List Asn} {b bp : Nat} {d : DM} {x : Ext}
theorem readRecords_l {bL e h : Nat} {ps : List UInt8} (hN : Nib s) (H : Holds s w (logW bL bp e h 0 ps false :: dsk b d :: R)) (hp : PartS s bp b x) (hon : ∀ k : Nat, k < 52 → (pread d x (k : Int)).2 = 0) (hl : ps.length = 640) : Calls Tryz.prog 87 #[.pointer (some ⟨bL, 0, none⟩)] w fun y w' => ∃ s', s.Le s' ∧ Holds s' w' (logW bL bp e h (recsM d x e 18 0 ps 0 []).2 (recsM d x e 18 0 ps 0 []).1 false :: dsk b d :: R) ∧ y = .returned (.int .i64 0) := by
 have hwf : d.Wf := Holds.wf H.tail
 unfold logW at H
 refine enter Tryz.func87 rfl Tryz.ntmps87 rfl ?_
 refine Gq8 H ?_
 replace H := H.nilRow 159 2
 refine C.loopS [2, 3, 4, 5, 6, 7, 8, 9, 10, 11, 12, 13, 14, 15, 16, 17, 18, 19, 20, 21, 22, 23, 24, 25, 26, 27, 28, 29, 30, 31, 32, 33, 34, 35, 36, 37, 38, 39, 40, 41, 42, 43, 44, 45, 46, 47, 48, 49, 50, 51, 52, 53, 54, 55, 56, 57, 58, 59, 60, 61, 62, 63, 64, 65, 66, 67, 68, 69, 70, 71, 72, 73, 74, 75, 76, 77, 78, 79, 80, 81, 82, 83, 84, 85, 86, 87, 88, 89, 90] [3, 15] rfl (fun k vs w => ∃ i : Nat, ∃ s' psi ui pend aa cc cs, k = 18 - i ∧ i ≤ 18 ∧ vs = [.slice aa pend.length cc, .int .i64 (i : Int)] ∧ s.Le s' ∧ ChS s' cs pend ∧ (∀ c ∈ pend, c.Ok) ∧ psi.length = 640 ∧ pend.length ≤ i ∧ recsM d x e 18 0 ps 0 [] = recsM d x e (18 - i) i psi ui pend ∧ Holds s' w (row 159 2 (.slice aa pend.length cc) pend.length cs :: logW bL bp e h ui psi false :: dsk b d :: R)) 18 ⟨0, s, ps, 0, [], none, 0, [], rfl, Nat.zero_le _, rfl, Ro.Le.refl _, ChS.nil _, by simp, hl, Nat.le_refl _, rfl, H⟩ ?_
 clear H
 rintro k vs hv w ⟨i, s1, psi, ui, pend, aa, cc, cs, rfl, hi, rfl, hs1, hch, hok, hpl, hpn, hrec, H⟩
 unfold logW at H
 generalize recsM d x e 18 0 ps 0 [] = res at *
 by_cases hlt : i < 18
 ·rw [show 18 - i = (18 - (i + 1)) + 1 by omega] at hrec
  rw [recsM] at hrec
  refine Gq8 H ?_
  replace H : Holds _ _ (dsk b _ :: _) := tp H
  rw [show (34 : Int) + (i : Int) = ((34 + i : Nat) : Int) by omega]
  have hR := Read_p (a := ((34 + i : Nat) : Int)) H (hp.mono hs1) (by unfold I64; omega)
  have h64 := pread_64 (d := d) (x := x) (a := ((34 + i : Nat) : Int)) hwf (hon (34 + i) (by omega))
  unfold sec at hrec
  rw [hon (34 + i) (by omega)] at hR
  generalize (pread d x ((34 + i : Nat) : Int)).1 = l at *
  (refine X.call (hR) ?_; (try clear H); rintro _ w ⟨t1, a1, c1, rfl, H⟩; refine ⟨_, rfl, ?_⟩)
  clear hR
  refine Gq8 H ?_
  refine X.call (readRecord_w (l := l) (hN.mono hs1) H (.own 0 _ rfl) (by omega)) ?_
  clear H
  rintro _ w ⟨s2, hs2, H, (⟨hd, rfl⟩ | ⟨e', q, q2, r, v, hd, rfl, hS⟩)⟩
  ·refine ⟨_, rfl, ?_⟩
   rw [hd] at hrec
   dsimp only at hrec
   refine Gq8 H ?_
   refine X.call (readMark_w (l := l) ((hN.mono hs1).mono hs2) H (.own 0 _ rfl) (by omega)) ?_
   clear H
   rintro _ w ⟨s3, hs3, H, (⟨hd2, rfl⟩ | ⟨e', q, hd2, rfl⟩)⟩
   ·refine ⟨_, rfl, ?_⟩
    rw [hd2] at hrec
    dsimp only at hrec
    refine Gq8 H ?_
    rw [hrec]
    exact ⟨_, resT rfl, s3, (hs1.trans hs2).trans hs3, H.arr, rfl⟩
   ·refine ⟨_, rfl, ?_⟩
    rw [hd2] at hrec
    dsimp only at hrec
    by_cases hc : e' = e ∧ q.toNat = i
    ·rw [if_pos hc] at hrec
     obtain ⟨rfl, hq⟩ := hc
     have Hq := H.arr (rs' := row 159 2 (.slice aa pend.length cc) pend.length cs :: logW bL bp e' h ui psi false :: dsk b d :: R)
     obtain ⟨s4, hs4, H1, hSl⟩ := Hq.fixRow
     clear H Hq
     have H := H1
     clear H1
     have hch4 := hch.mono ((hs2.trans hs3).trans hs4)
     refine Gq8 H ?_
     (refine X.call (apply_l H hSl hch4 hok hpl (by omega)) ?_; (try clear H); rintro _ w ⟨rfl, H⟩; refine ⟨_, rfl, ?_⟩)
     unfold logW at H
     (refine Gq8 H ?_; clear H; (try clear w); intro w H)
     replace H := H.nilRow 159 2
     exact ⟨agr, 18 - (i + 1), by omega, i + 1, s4, applyL psi pend, i + 1, [], none, 0, [], rfl, by omega, rfl, ((hs1.trans hs2).trans hs3).trans hs4, ChS.nil _, by simp, applyL_len hok hpl, Nat.zero_le _, hrec, H⟩
    ·rw [if_neg hc] at hrec
     by_cases hee : e' = e
     ·have hqi : q.toNat ≠ i := fun h => hc ⟨hee, h⟩
      refine Gq8 H ?_
      rw [hrec]
      exact ⟨_, resT rfl, s3, (hs1.trans hs2).trans hs3, H.arr, rfl⟩
     ·refine Gq8 H ?_
      rw [hrec]
      exact ⟨_, resT rfl, s3, (hs1.trans hs2).trans hs3, H.arr, rfl⟩
  ·refine ⟨_, rfl, ?_⟩
   rw [hd] at hrec
   dsimp only at hrec
   by_cases hc : e' = e ∧ q.toNat = i ∧ q2.toNat < 16
   ·rw [if_pos hc] at hrec
    obtain ⟨rfl, hq, hq2⟩ := hc
    have hr := decW_len hd (by decide)
    have hr40 : r.length = 40 := by simpa using hr
    have hS' : SlS s2 v 1 r.length (u8s r) := by rw [hr40]; exact hS
    have hS'' := hS'
    obtain ⟨va, vc, rfl, _⟩ := hS''
    repeat' (first | (refine K.build [(0, .int .i64 (q2.toNat : Int)), (1, .slice va r.length vc)] (.agg #[.int .i64 (q2.toNat : Int), .slice va r.length vc]) (build_change _ _ _ _) rfl rfl rfl ?_) | refine Go8 H ?_ | (refine Gs8 H ?_; clear H; (try clear w); intro w H) | (refine Gn H ?_; clear H; (try clear w); intro _ w H))
    refine K.one H rfl rfl (by conv => lhs; whnf) (by rfl) (by rfl) ?_; clear H; (try clear w); intro g1 w H
    replace H := H.arr (rs' := row 159 2 (.slice (some ⟨g1, 0, none⟩) 1 1) 1 [.int .i64 (q2.toNat : Int), .slice va r.length vc] :: row 159 2 (.slice aa pend.length cc) pend.length cs :: logW bL bp e' h ui psi false :: dsk b d :: R)
    repeat' (first | (refine X.app H ?_; clear H; intro a3 c3 w H) | refine Go8 H ?_ | (refine Gs8 H ?_; clear H; (try clear w); intro w H) | (refine Gn H ?_; clear H; (try clear w); intro _ w H))
    have H' := H.arr (rs' := row 159 2 (.slice a3 (pend.length + 1) c3) (pend.length + 1) (cs ++ [.int .i64 (q2.toNat : Int), .slice va r.length vc]) :: logW bL bp e' h ui psi false :: dsk b d :: R)
    exact ⟨agr, 18 - (i + 1), by omega, i + 1, s2, psi, ui, pend ++ [⟨(q2.toNat : Int), r⟩], a3, c3, _, rfl, by omega, by rw [List.length_append]; rfl, hs1.trans hs2, (hch.mono hs2).snoc (c := ⟨(q2.toNat : Int), r⟩) hS', by
     intro c hc
     rw [List.mem_append, List.mem_singleton] at hc
     rcases hc with hc | rfl
     ·exact hok c hc
     ·exact ⟨Int.natCast_nonneg _, by dsimp only; omega, hr40⟩, hpl, by rw [List.length_append]; simp; omega, hrec, by rw [List.length_append]; exact H'⟩
   ·rw [if_neg hc] at hrec
    by_cases hee : e' = e
    ·by_cases hqi : q.toNat = i
     ·have hq2 : ¬ q2.toNat < 16 := fun h => hc ⟨hee, hqi, h⟩
      refine Gq8 H ?_
      rw [hrec]
      exact ⟨_, resT rfl, s2, hs1.trans hs2, H.arr, rfl⟩
     ·refine Gq8 H ?_
      rw [hrec]
      exact ⟨_, resT rfl, s2, hs1.trans hs2, H.arr, rfl⟩
    ·refine Gq8 H ?_
     rw [hrec]
     exact ⟨_, resT rfl, s2, hs1.trans hs2, H.arr, rfl⟩
 ·have hie : i = 18 := by omega
  subst hie
  rw [Nat.sub_self, recsM] at hrec
  refine Gq8 H ?_
  rw [hrec]
  exact ⟨_, resT rfl, s1, hs1, H.arr, rfl⟩
end
def wpagesM (d : DM) (x : Ext) (e h : Nat) : Nat → Nat → List UInt8 → Option (List UInt8)
 | 0, _, ps => some ps
 | n + 1, i, ps => match decW 80 41 (sec d x (2 + 16 * h + i)) with
  | some (e', b :: r) => if e' = e ∧ b.toNat = i then wpagesM d x e h n (i + 1) (setP ps i r) else none
  | _ => none
def openM (d : DM) (x : Ext) : Option WL × Int := match accW d x 2 with
 | none => (none, 6)
 | some (e, h) => match wpagesM d x e h 16 0 z640 with
  | none => (none, 8)
  | some ps => (some ⟨e, h, (recsM d x e 18 0 ps 0 []).2, (recsM d x e 18 0 ps 0 []).1, false⟩, 0)
theorem candW_h {l : List UInt8} {i e h : Nat} (hc : candW l i = some (e, h)) : h ≤ 1 := by
 unfold candW at hc
 split at hc
 ·split at hc
  ·split at hc
   ·cases hc; assumption
   ·cases hc
  ·cases hc
 ·cases hc
theorem pickW_or {a b c : Option (Nat × Nat)} (h : pickW a b = c) : c = a ∨ c = b := by
 subst h
 unfold pickW
 split
 ·exact .inr rfl
 ·exact .inl rfl
 ·split
  ·exact .inr rfl
  ·exact .inl rfl
theorem accW_h {d : DM} {x : Ext} {e h : Nat} : ∀ i, accW d x i = some (e, h) → h ≤ 1
 | 0, hc => by cases hc
 | i + 1, hc => by
  have h1 : pickW (accW d x i) (candW (sec d x i) i) = some (e, h) := hc
  rcases pickW_or h1 with h2 | h2
  ·exact accW_h i h2.symm
  ·exact candW_h h2.symm
theorem build_logW (bp : Nat) (w : World) : (Instr.build 163 [(0, .pointer (some ⟨bp, 0, none⟩))].toArray).run Tryz.prog w = .ok (.agg (.pointer (some ⟨bp, 0, none⟩) :: .int .u32 ((0 : Nat) : Int) :: .int .i64 ((0 : Nat) : Int) :: .int .i64 ((0 : Nat) : Int) :: (u8s z640 ++ [.bool false])).toArray) w := by kernel_rfl
section
variable {s : Ro} {w : World} {R : List Asn} {b bp : Nat} {d : DM} {x : Ext}
theorem Open_g (hN : Nib s) (H : Holds s w (dsk b d :: R)) (hp : PartS s bp b x) (hx : 52 ≤ x.2) (hon : ∀ k : Nat, k < 52 → (pread d x (k : Int)).2 = 0) : Calls Tryz.prog 53 #[.pointer (some ⟨bp, 0, none⟩)] w fun y w' => ∃ s', s.Le s' ∧ ((∃ m bL, openM d x = (some m, 0) ∧ y = .returned (.tuple #[.pointer (some ⟨bL, 0, none⟩), .int .i64 0]) ∧ Holds s' w' (logW bL bp m.epoch m.home m.used m.pages m.dead :: dsk b d :: R)) ∨ ∃ c, openM d x = (none, c) ∧ c ≠ 0 ∧ y = .returned (.tuple #[.pointer none, .int .i64 c]) ∧ Holds s' w' (dsk b d :: R)) := by
 have hwf : d.Wf := Holds.wf H
 refine enter Tryz.func53 rfl Tryz.ntmps53 rfl ?_
 refine Gq8 H ?_
 (refine X.call (Size_p H hp) ?_; (try clear H); rintro _ w ⟨rfl, H⟩; refine ⟨_, rfl, ?_⟩)
 refine Gq8 H ?_
 refine K.build [(0, .pointer (some ⟨bp, 0, none⟩))] _ (build_logW _) rfl rfl rfl ?_
 (refine Gq8 H ?_; clear H; (try clear w); intro _ w H)
 rename_i bL
 refine X.call (readHead_l hN H hp hon) ?_
 clear H
 rintro _ w ⟨s1, hs1, H, rfl⟩
 refine ⟨_, rfl, ?_⟩
 cases hacc : accW d x 2 with
 | none =>
  have ho : openM d x = (none, 6) := by unfold openM; rw [hacc]
  rw [hacc] at H
  dsimp only [Option.isSome_none]
  rw [if_neg (by decide)]
  refine Gq8 H ?_
  exact ⟨_, resTT rfl, s1, hs1, .inr ⟨6, ho, by decide, rfl, H.arr⟩⟩
 | some eh =>
  obtain ⟨e, h⟩ := eh
  have hh := accW_h 2 hacc
  have ho : openM d x = match wpagesM d x e h 16 0 z640 with | none => (none, 8) | some ps => (some ⟨e, h, (recsM d x e 18 0 ps 0 []).2, (recsM d x e 18 0 ps 0 []).1, false⟩, 0) := by unfold openM; rw [hacc]
  rw [hacc] at H
  dsimp only [Option.isSome_some, Option.getD_some] at H ⊢
  rw [if_pos rfl]
  unfold logW at H
  refine Gq8 H ?_
  refine C.loopS [2, 3, 6, 7, 8, 9, 10, 11, 12, 25, 26, 27, 28, 29, 30, 31, 32, 33, 34, 35, 36, 37, 38, 39, 40, 41, 42, 43, 44, 45, 46, 47, 48, 49, 50, 51, 52, 53, 54, 55, 56, 57, 58, 59, 60, 61, 62, 63, 64, 65, 66, 67, 68, 69, 70, 71, 72] [25] rfl (fun k vs w => ∃ i : Nat, ∃ s' ps, k = 16 - i ∧ i ≤ 16 ∧ vs = [.int .i64 (i : Int)] ∧ s.Le s' ∧ ps.length = 640 ∧ wpagesM d x e h 16 0 z640 = wpagesM d x e h (16 - i) i ps ∧ Holds s' w (logW bL bp e h 0 ps false :: dsk b d :: R)) 16 ⟨0, s1, z640, rfl, Nat.zero_le _, rfl, hs1, by decide, rfl, H⟩ ?_
  clear H
  rintro k vs hv w ⟨i, s2, ps, rfl, hi, rfl, hs2, hpl, hpm, H⟩
  unfold logW at H
  generalize wpagesM d x e h 16 0 z640 = res at *
  by_cases hlt : i < 16
  ·rw [show 16 - i = (16 - (i + 1)) + 1 by omega] at hpm
   rw [wpagesM] at hpm
   refine Gq8 H ?_
   (refine X.call (homeAt_w (h := h) (i := i) H (by omega) (by omega)) ?_; (try clear H); rintro _ w ⟨rfl, H⟩; refine ⟨_, rfl, ?_⟩)
   refine Gq8 H ?_
   replace H : Holds _ _ (dsk b _ :: _) := tp H
   have hR := Read_p (a := ((2 + 16 * h + i : Nat) : Int)) H (hp.mono hs2) (by unfold I64; omega)
   have h64 := pread_64 (d := d) (x := x) (a := ((2 + 16 * h + i : Nat) : Int)) hwf (hon (2 + 16 * h + i) (by omega))
   unfold sec at hpm
   rw [hon (2 + 16 * h + i) (by omega)] at hR
   generalize (pread d x ((2 + 16 * h + i : Nat) : Int)).1 = l at *
   (refine X.call (hR) ?_; (try clear H); rintro _ w ⟨t1, a1, c1, rfl, H⟩; refine ⟨_, rfl, ?_⟩)
   clear hR
   refine Gq8 H ?_
   refine X.call (readPage_w (l := l) (hN.mono hs2) H (.own 0 _ rfl) (by omega)) ?_
   clear H
   rintro _ w ⟨s3, hs3, H, (⟨hd, rfl⟩ | ⟨e', q, r, v, hd, rfl, hS⟩)⟩
   ·refine ⟨_, rfl, ?_⟩
    rw [hd] at hpm
    dsimp only at hpm
    subst hpm
    refine Gq8 H ?_
    exact ⟨_, resTT rfl, s3, hs2.trans hs3, .inr ⟨8, ho, by decide, rfl, H.arr⟩⟩
   ·refine ⟨_, rfl, ?_⟩
    rw [hd] at hpm
    dsimp only at hpm
    by_cases hc : e' = e ∧ q.toNat = i
    ·rw [if_pos hc] at hpm
     obtain ⟨rfl, hq⟩ := hc
     have hr := decW_len hd (by decide)
     have hr40 : r.length = 40 := by simpa using hr
     have hS' : SlS s3 v 1 r.length (u8s r) := by rw [hr40]; exact hS
     have hS'' := hS'
     obtain ⟨va, vc, rfl, _⟩ := hS''
     replace H := H.arr (rs' := logW bL bp e' h 0 ps false :: dsk b d :: R)
     unfold logW at H
     repeat' (first | (refine K.iaA (i := i) rfl rfl rfl rfl rfl (by omega) ?_) | refine Go8 H ?_ | (refine Gs8 H ?_; clear H; (try clear w); intro w H) | (refine Gn H ?_; clear H; (try clear w); intro _ w H))
     refine K.copyV (off := 4 + i * 40) 0 H rfl (.ro hS') (u8s_one _) (q := 40) (by rw [hr40]; rfl) (by simp [u8s_len, hpl]; omega) rfl rfl rfl ?_
     clear H
     intro w H
     rw [List.set_cons_zero] at H
     have H' : Holds s3 w (logW bL bp e' h 0 (setP ps i r) false :: dsk b d :: R) := by
      have hput := put_page (pre := [.pointer (some ⟨bp, 0, none⟩), .int .u32 (e' : Int), .int .i64 (h : Int), .int .i64 ((0 : Nat) : Int)]) (post := [.bool false]) (off := 4) rfl hpl hr40 (by omega : i < 16)
      unfold logW
      exact Eq.mp (congrArg (fun c => Holds s3 w (var bL 163 c :: dsk b d :: R)) hput) H
     clear H
     have H := H'
     clear H'
     refine Gq8 H ?_
     exact ⟨agr, 16 - (i + 1), by omega, i + 1, s3, setP ps i r, rfl, by omega, rfl, hs2.trans hs3, setP_len hpl hr40 (by omega), hpm, H⟩
    ·rw [if_neg hc] at hpm
     subst hpm
     by_cases hee : e' = e
     ·have hqi : q.toNat ≠ i := fun h => hc ⟨hee, h⟩
      refine Gq8 H ?_
      exact ⟨_, resTT rfl, s3, hs2.trans hs3, .inr ⟨8, ho, by decide, rfl, H.arr⟩⟩
     ·refine Gq8 H ?_
      exact ⟨_, resTT rfl, s3, hs2.trans hs3, .inr ⟨8, ho, by decide, rfl, H.arr⟩⟩
  ·have hie : 16 - i = 0 := by omega
   rw [hie, wpagesM] at hpm
   subst hpm
   dsimp only at ho
   refine Gq8 H ?_
   refine X.call (readRecords_l (hN.mono hs2) H (hp.mono hs2) hon hpl) ?_
   clear H
   rintro _ w ⟨s3, hs3, H, rfl⟩
   refine ⟨_, rfl, ?_⟩
   refine Gq8 H ?_
   exact ⟨_, resTT rfl, s3, hs2.trans hs3, .inl ⟨_, bL, ho, rfl, H⟩⟩
end
end Go.Proofs.YtgilmcpdpggikaaGreatDoor
