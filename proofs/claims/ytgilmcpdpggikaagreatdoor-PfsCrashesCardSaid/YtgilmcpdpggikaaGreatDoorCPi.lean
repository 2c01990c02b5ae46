/- Squeezed copy of the texts Pi Tn. -/
import Derived.Test.YtgilmcpdpggikaaGreatDoorCPg
import Derived.Test.YtgilmcpdpggikaaGreatDoorCTx3
set_option maxRecDepth 100000
set_option maxHeartbeats 1000000
set_option linter.unusedSimpArgs false
set_option linter.unusedVariables false
namespace Go.Proofs.YtgilmcpdpggikaaGreatDoor
open Go Go.RowKit Go.Own
structure T3 (t : TR) (q : Int) (u : TR) : Prop where
 ok : u.Ok
 chk : checkM u = true
 used : (usedN u : Int) ≤ usedN t ∨ (usedN u : Int) ≤ q
theorem T3.refl {t : TR} {q : Int} (ht : t.Ok) (hc : checkM t = true) : T3 t q t := ⟨ht, hc, .inl (Int.le_refl _)⟩
section
variable {t : TR} {q : Int} {hs : List Hd}
theorem T3.bec {r : TR × Int} (ht : t.Ok) (hc : checkM t = true) (h1 : r.1.Ok) (h2 : r.2 = 0 → checkM r.1 = true) (h3 : r.2 = 0 → usedN r.1 ≤ usedN t) : T3 t q (becM t r) := by
 unfold becM
 split
 ·rename_i h; exact ⟨h1, h2 h, .inl (by have := h3 h; omega)⟩
 ·exact T3.refl ht hc
theorem T3.make (ht : t.Ok) (hc : checkM t = true) {p : Str} {k : Int} : T3 t q (becM t (makeM t p k)) := T3.bec ht hc (ok_make ht) (check_make ht) (used_make ht)
theorem T3.move (ht : t.Ok) (hc : checkM t = true) {p p2 : Str} : T3 t q (becM t (moveM t p p2)) := T3.bec ht hc (ok_move ht) (check_move ht) (used_move ht)
theorem T3.rem (ht : t.Ok) (hc : checkM t = true) {p : Str} : T3 t q (remF t hs p).1 := by
 unfold remF
 split
 ·exact T3.refl ht hc
 rename_i h
 split
 ·exact T3.refl ht hc
 ·have h0 : (removeM t p).2 = 0 := by omega
  exact ⟨ok_remove ht, check_remove ht h0, .inl (by have := used_remove ht h0; dsimp only; omega)⟩
theorem T3.cut (ht : t.Ok) (hc : checkM t = true) {n : Int} : T3 t q (cutF t hs n).1 := by
 unfold cutF
 split
 ·exact T3.bec ht hc (ok_cut ht) (check_cut ht) (used_cut ht)
 ·exact T3.refl ht hc
theorem T3.write (ht : t.Ok) (hc : checkM t = true) {n : Int} {b : Str} : T3 t q (writeF t q hs n b).1 := by
 unfold writeF
 split
 ·split
  ·rename_i h
   exact ⟨ok_write ht, check_write ht h, used_write ht h⟩
  ·exact T3.refl ht hc
 ·exact T3.refl ht hc
theorem HOk.open (h : HOk hs) {p : Str} : HOk (openF t hs p).1 := by
 unfold openF
 split
 ·exact h
 split
 ·exact h
 split
 ·exact h
 ·exact h.set _ ⟨Int.le_refl _, by show (0 : Int) ≤ 80; decide⟩
theorem HOk.close (h : HOk hs) {n : Int} : HOk (closeF hs n).1 := by
 unfold closeF
 split
 ·exact h.set _ ⟨Int.le_refl _, by show (0 : Int) ≤ 80; decide⟩
 ·exact h
theorem HOk.seek (h : HOk hs) {n a : Int} : HOk (seekF hs n a).1 := by
 unfold seekF
 split
 ·split
  ·exact h
  ·rename_i h2
   exact h.set _ ⟨by dsimp only; omega, by dsimp only; omega⟩
 ·exact h
theorem OpenH.at_ (h : HOk hs) {n : Int} (ho : OpenH hs n) : (hd hs n.toNat).Ok := h.get (by have := ho.1; have := ho.2.1; omega)
theorem HOk.read (ht : t.Ok) (h : HOk hs) {n m : Int} : HOk (readF t hs n m).1 := by
 unfold readF
 split
 ·rename_i ho
  have ha := ho.at_ h
  split
  ·exact h
  ·exact h.set _ (read_len ht ha.1 ha.2)
 ·exact h
theorem HOk.write (h : HOk hs) {n : Int} {b : Str} : HOk (writeF t q hs n b).2.1 := by
 unfold writeF
 split
 ·rename_i ho
  have ha := ho.at_ h
  split
  ·rename_i h0
   have := write_len h0
   exact h.set _ ⟨by dsimp only; have := ha.1; omega, by dsimp only; omega⟩
  ·exact h
 ·exact h
end
structure A18 where
 k : Int
 path : Str
 dst : Str
 n : Int
 h : Int
 data : Str
 a : Option Addr
 c : Nat
 kv : Value
 keep : List Bool
def A18.cells (x : A18) : List Value := [.int .i64 x.k, .string ⟨x.path.toArray⟩, .string ⟨x.dst.toArray⟩, .int .i64 x.n, .int .i64 x.h, .slice x.a x.data.length x.c, x.kv]
structure A18.Ok (s : Ro) (x : A18) : Prop where
 dl : x.data.length ≤ 140737488355328
 sl : SlS s (.slice x.a x.data.length x.c) 1 x.data.length (u8s x.data)
 keep : SlS s x.kv 1 x.keep.length (x.keep.map Value.bool)
 klen : x.keep.length ≤ 140737488351232
 hn : I64 x.n
theorem A18.Ok.mono {s s' : Ro} {x : A18} (h : x.Ok s) (hs : s.Le s') : x.Ok s' := ⟨h.dl, h.sl.mono hs, h.keep.mono hs, h.klen, h.hn⟩
structure StepR (d : DM) (x : Ext) (m : WL) (t : TR) (q : Int) (sy : Prop) (d' : DM) (m' : WL) (t' : TR) (hs' : List Hd) : Prop where
 tr : T3 t q t'
 hok : HOk hs'
 log : (d' = d ∧ m' = m) ∨ (sy ∧ t' = t ∧ d' = (syncM d x m t).1 ∧ m' = (syncM d x m t).2.1)
section
variable {w : World} {s : Ro} {R : List Asn} {bF bL bp b : Nat} {t : TR} {q : Int} {hs : List Hd} {d : DM} {x : Ext} {m : WL}
theorem run_w {a : A18} (hN : Nib s) (H : Holds s w (fsV bF bL t q hs :: logM bL bp m :: dsk b d :: R)) (ht : t.Ok) (hct : checkM t = true) (hok : HOk hs) (hp : PartS s bp b x) (he : m.epoch < 2 ^ 32) (hh : m.home ≤ 1) (hu : m.used ≤ 18) (hl : m.pages.length = 640) (hpl : d.pend.length ≤ 10000) (ha : a.Ok s) : Calls Tryz.prog 26 #[.pointer (some ⟨bF, 0, none⟩), .agg a.cells.toArray] w fun y w' => ∃ (s' : Ro) (d' : DM) (m' : WL) (t' : TR) (hs' : List Hd), y = .returned (.tuple #[]) ∧ s.Le s' ∧ StepR d x m t q (a.k = 13 ∨ a.k = 14) d' m' t' hs' ∧ Holds s' w' (fsV bF bL t' q hs' :: logM bL bp m' :: dsk b d' :: R) := by
 obtain ⟨h4, hok4⟩ := hok
 have hok : HOk hs := ⟨h4, hok4⟩
 have hdl := ha.dl
 have hsl := ha.sl
 obtain ⟨ak, ap, adst, an, ah, adat, aa, ac, kv, kp⟩ := a
 dsimp only [A18.cells] at hdl hsl ⊢
 refine enter Tryz.func26 rfl Tryz.ntmps26 rfl ?_
 by_cases h0 : ak = 0 ∨ ak = 1
 ·rcases h0 with h0 | h0
  ·(refine Gq7 H ?_; clear H; (try clear w); intro bl1 w H)
   have H' := H.arr (rs' := fsV bF bL t q hs :: logM bL bp m :: dsk b d :: var bl1 51 [.int .i64 ak, .string ⟨ap.toArray⟩, .string ⟨adst.toArray⟩, .int .i64 an, .int .i64 ah, .slice aa adat.length ac, kv] :: R)
   clear H
   (refine X.call (Make_f (p := ap) (k := an) H' ht h4) ?_; (try clear H); rintro _ w ⟨rfl, H⟩; refine ⟨_, rfl, ?_⟩)
   refine Gq7 H ?_
   exact ⟨_, res0 rfl, s, d, m, _, hs, rfl, Ro.Le.refl _, ⟨T3.make (p := ap) (k := an) ht hct, hok, .inl ⟨rfl, rfl⟩⟩, H.arr⟩
  ·(refine Gq7 H ?_; clear H; (try clear w); intro bl1 w H)
   have H' := H.arr (rs' := fsV bF bL t q hs :: logM bL bp m :: dsk b d :: var bl1 51 [.int .i64 ak, .string ⟨ap.toArray⟩, .string ⟨adst.toArray⟩, .int .i64 an, .int .i64 ah, .slice aa adat.length ac, kv] :: R)
   clear H
   (refine X.call (Make_f (p := ap) (k := an) H' ht h4) ?_; (try clear H); rintro _ w ⟨rfl, H⟩; refine ⟨_, rfl, ?_⟩)
   refine Gq7 H ?_
   exact ⟨_, res0 rfl, s, d, m, _, hs, rfl, Ro.Le.refl _, ⟨T3.make (p := ap) (k := an) ht hct, hok, .inl ⟨rfl, rfl⟩⟩, H.arr⟩
 by_cases h2 : ak = 2
 ·(refine Gq7 H ?_; clear H; (try clear w); intro bl1 w H)
  have H' := H.arr (rs' := fsV bF bL t q hs :: logM bL bp m :: dsk b d :: var bl1 51 [.int .i64 ak, .string ⟨ap.toArray⟩, .string ⟨adst.toArray⟩, .int .i64 an, .int .i64 ah, .slice aa adat.length ac, kv] :: R)
  clear H
  (refine X.call (Remove_f (p := ap) H' ht h4) ?_; (try clear H); rintro _ w ⟨rfl, H⟩; refine ⟨_, rfl, ?_⟩)
  refine Gq7 H ?_
  exact ⟨_, res0 rfl, s, d, m, _, hs, rfl, Ro.Le.refl _, ⟨T3.rem (hs := hs) (p := ap) ht hct, hok, .inl ⟨rfl, rfl⟩⟩, H.arr⟩
 by_cases h3 : ak = 3
 ·(refine Gq7 H ?_; clear H; (try clear w); intro bl1 w H)
  have H' := H.arr (rs' := fsV bF bL t q hs :: logM bL bp m :: dsk b d :: var bl1 51 [.int .i64 ak, .string ⟨ap.toArray⟩, .string ⟨adst.toArray⟩, .int .i64 an, .int .i64 ah, .slice aa adat.length ac, kv] :: R)
  clear H
  (refine X.call (Move_f (p := ap) (p2 := adst) H' ht h4) ?_; (try clear H); rintro _ w ⟨rfl, H⟩; refine ⟨_, rfl, ?_⟩)
  refine Gq7 H ?_
  exact ⟨_, res0 rfl, s, d, m, _, hs, rfl, Ro.Le.refl _, ⟨T3.move (p := ap) (p2 := adst) ht hct, hok, .inl ⟨rfl, rfl⟩⟩, H.arr⟩
 by_cases k4 : ak = 4 ∨ ak = 5
 ·rcases k4 with k4 | k4
  ·(refine Gq7 H ?_; clear H; (try clear w); intro bl1 w H)
   have H' := H.arr (rs' := fsV bF bL t q hs :: logM bL bp m :: dsk b d :: var bl1 51 [.int .i64 ak, .string ⟨ap.toArray⟩, .string ⟨adst.toArray⟩, .int .i64 an, .int .i64 ah, .slice aa adat.length ac, kv] :: R)
   clear H
   (refine X.call (Open_f (p := ap) H' ht h4) ?_; (try clear H); rintro _ w ⟨rfl, H⟩; refine ⟨_, rfl, ?_⟩)
   refine Gq7 H ?_
   exact ⟨_, res0 rfl, s, d, m, t, _, rfl, Ro.Le.refl _, ⟨T3.refl ht hct, hok.open (t := t) (p := ap), .inl ⟨rfl, rfl⟩⟩, H.arr⟩
  ·(refine Gq7 H ?_; clear H; (try clear w); intro bl1 w H)
   have H' := H.arr (rs' := fsV bF bL t q hs :: logM bL bp m :: dsk b d :: var bl1 51 [.int .i64 ak, .string ⟨ap.toArray⟩, .string ⟨adst.toArray⟩, .int .i64 an, .int .i64 ah, .slice aa adat.length ac, kv] :: R)
   clear H
   (refine X.call (Open_f (p := ap) H' ht h4) ?_; (try clear H); rintro _ w ⟨rfl, H⟩; refine ⟨_, rfl, ?_⟩)
   refine Gq7 H ?_
   exact ⟨_, res0 rfl, s, d, m, t, _, rfl, Ro.Le.refl _, ⟨T3.refl ht hct, hok.open (t := t) (p := ap), .inl ⟨rfl, rfl⟩⟩, H.arr⟩
 by_cases h6 : ak = 6
 ·(refine Gq7 H ?_; clear H; (try clear w); intro bl1 w H)
  have H' := H.arr (rs' := fsV bF bL t q hs :: logM bL bp m :: dsk b d :: var bl1 51 [.int .i64 ak, .string ⟨ap.toArray⟩, .string ⟨adst.toArray⟩, .int .i64 an, .int .i64 ah, .slice aa adat.length ac, kv] :: R)
  clear H
  (refine X.call (Close_f (n := ah) H' ht h4) ?_; (try clear H); rintro _ w ⟨rfl, H⟩; refine ⟨_, rfl, ?_⟩)
  refine Gq7 H ?_
  exact ⟨_, res0 rfl, s, d, m, t, _, rfl, Ro.Le.refl _, ⟨T3.refl ht hct, hok.close (n := ah), .inl ⟨rfl, rfl⟩⟩, H.arr⟩
 by_cases h7 : ak = 7
 ·(refine Gq7 H ?_; clear H; (try clear w); intro bl1 w H)
  have H' := H.arr (rs' := fsV bF bL t q hs :: logM bL bp m :: dsk b d :: var bl1 51 [.int .i64 ak, .string ⟨ap.toArray⟩, .string ⟨adst.toArray⟩, .int .i64 an, .int .i64 ah, .slice aa adat.length ac, kv] :: R)
  clear H
  (refine X.call (Seek_f (n := ah) (a := an) H' ht h4) ?_; (try clear H); rintro _ w ⟨rfl, H⟩; refine ⟨_, rfl, ?_⟩)
  refine Gq7 H ?_
  exact ⟨_, res0 rfl, s, d, m, t, _, rfl, Ro.Le.refl _, ⟨T3.refl ht hct, hok.seek (n := ah) (a := an), .inl ⟨rfl, rfl⟩⟩, H.arr⟩
 by_cases h8 : ak = 8
 ·(refine Gq7 H ?_; clear H; (try clear w); intro bl1 w H)
  have H' := H.arr (rs' := fsV bF bL t q hs :: logM bL bp m :: dsk b d :: var bl1 51 [.int .i64 ak, .string ⟨ap.toArray⟩, .string ⟨adst.toArray⟩, .int .i64 an, .int .i64 ah, .slice aa adat.length ac, kv] :: R)
  clear H
  (refine X.call (Read_f (n := ah) (m := an) H' ht hct hok) ?_; (try clear H); rintro _ w ⟨a9, c9, rfl, H⟩; refine ⟨_, rfl, ?_⟩)
  refine Gq7 H ?_
  exact ⟨_, res0 rfl, s, d, m, t, _, rfl, Ro.Le.refl _, ⟨T3.refl ht hct, hok.read ht (n := ah) (m := an), .inl ⟨rfl, rfl⟩⟩, H.arr⟩
 by_cases h9 : ak = 9 ∨ ak = 10 ∨ ak = 11
 ·rcases h9 with h9 | h9 | h9
  ·(refine Gq7 H ?_; clear H; (try clear w); intro bl1 w H)
   have H' := H.arr (rs' := fsV bF bL t q hs :: logM bL bp m :: dsk b d :: var bl1 51 [.int .i64 ak, .string ⟨ap.toArray⟩, .string ⟨adst.toArray⟩, .int .i64 an, .int .i64 ah, .slice aa adat.length ac, kv] :: R)
   clear H
   (refine X.call (Write_f (n := ah) (b := adat) H' ht hct hok hsl hdl) ?_; (try clear H); rintro _ w ⟨rfl, H⟩; refine ⟨_, rfl, ?_⟩)
   refine Gq7 H ?_
   exact ⟨_, res0 rfl, s, d, m, _, _, rfl, Ro.Le.refl _, ⟨T3.write (hs := hs) (n := ah) (b := adat) ht hct, hok.write (t := t) (q := q) (n := ah) (b := adat), .inl ⟨rfl, rfl⟩⟩, H.arr⟩
  ·(refine Gq7 H ?_; clear H; (try clear w); intro bl1 w H)
   have H' := H.arr (rs' := fsV bF bL t q hs :: logM bL bp m :: dsk b d :: var bl1 51 [.int .i64 ak, .string ⟨ap.toArray⟩, .string ⟨adst.toArray⟩, .int .i64 an, .int .i64 ah, .slice aa adat.length ac, kv] :: R)
   clear H
   (refine X.call (Write_f (n := ah) (b := adat) H' ht hct hok hsl hdl) ?_; (try clear H); rintro _ w ⟨rfl, H⟩; refine ⟨_, rfl, ?_⟩)
   refine Gq7 H ?_
   exact ⟨_, res0 rfl, s, d, m, _, _, rfl, Ro.Le.refl _, ⟨T3.write (hs := hs) (n := ah) (b := adat) ht hct, hok.write (t := t) (q := q) (n := ah) (b := adat), .inl ⟨rfl, rfl⟩⟩, H.arr⟩
  ·(refine Gq7 H ?_; clear H; (try clear w); intro bl1 w H)
   have H' := H.arr (rs' := fsV bF bL t q hs :: logM bL bp m :: dsk b d :: var bl1 51 [.int .i64 ak, .string ⟨ap.toArray⟩, .string ⟨adst.toArray⟩, .int .i64 an, .int .i64 ah, .slice aa adat.length ac, kv] :: R)
   clear H
   (refine X.call (Write_f (n := ah) (b := adat) H' ht hct hok hsl hdl) ?_; (try clear H); rintro _ w ⟨rfl, H⟩; refine ⟨_, rfl, ?_⟩)
   refine Gq7 H ?_
   exact ⟨_, res0 rfl, s, d, m, _, _, rfl, Ro.Le.refl _, ⟨T3.write (hs := hs) (n := ah) (b := adat) ht hct, hok.write (t := t) (q := q) (n := ah) (b := adat), .inl ⟨rfl, rfl⟩⟩, H.arr⟩
 by_cases h12 : ak = 12
 ·(refine Gq7 H ?_; clear H; (try clear w); intro bl1 w H)
  have H' := H.arr (rs' := fsV bF bL t q hs :: logM bL bp m :: dsk b d :: var bl1 51 [.int .i64 ak, .string ⟨ap.toArray⟩, .string ⟨adst.toArray⟩, .int .i64 an, .int .i64 ah, .slice aa adat.length ac, kv] :: R)
  clear H
  (refine X.call (Cut_f (n := ah) H' ht hct h4) ?_; (try clear H); rintro _ w ⟨rfl, H⟩; refine ⟨_, rfl, ?_⟩)
  refine Gq7 H ?_
  exact ⟨_, res0 rfl, s, d, m, _, hs, rfl, Ro.Le.refl _, ⟨T3.cut (hs := hs) (n := ah) ht hct, hok, .inl ⟨rfl, rfl⟩⟩, H.arr⟩
 by_cases h13 : ak = 13 ∨ ak = 14
 ·rcases h13 with h13 | h13
  ·(refine Gq7 H ?_; clear H; (try clear w); intro bl1 w H)
   have H' := H.arr (rs' := fsV bF bL t q hs :: logM bL bp m :: dsk b d :: var bl1 51 [.int .i64 ak, .string ⟨ap.toArray⟩, .string ⟨adst.toArray⟩, .int .i64 an, .int .i64 ah, .slice aa adat.length ac, kv] :: R)
   clear H
   (refine X.call (Sync_f hN H' ht hct hp he hh hu hl hpl) ?_; (try clear H); rintro _ w ⟨s9, rfl, hs9, H⟩; refine ⟨_, rfl, ?_⟩)
   refine Gq7 H ?_
   exact ⟨_, res0 rfl, s9, _, _, t, hs, rfl, hs9, ⟨T3.refl ht hct, hok, .inr ⟨.inl h13, rfl, rfl, rfl⟩⟩, H.arr⟩
  ·(refine Gq7 H ?_; clear H; (try clear w); intro bl1 w H)
   have H' := H.arr (rs' := fsV bF bL t q hs :: logM bL bp m :: dsk b d :: var bl1 51 [.int .i64 ak, .string ⟨ap.toArray⟩, .string ⟨adst.toArray⟩, .int .i64 an, .int .i64 ah, .slice aa adat.length ac, kv] :: R)
   clear H
   (refine X.call (Sync_f hN H' ht hct hp he hh hu hl hpl) ?_; (try clear H); rintro _ w ⟨s9, rfl, hs9, H⟩; refine ⟨_, rfl, ?_⟩)
   refine Gq7 H ?_
   exact ⟨_, res0 rfl, s9, _, _, t, hs, rfl, hs9, ⟨T3.refl ht hct, hok, .inr ⟨.inr h13, rfl, rfl, rfl⟩⟩, H.arr⟩
 have g0 := not_or.1 h0
 have g4 := not_or.1 k4
 have g9 := not_or.1 h9
 have g13 := not_or.1 h13
 obtain ⟨g0, g1⟩ := g0
 obtain ⟨g13, g14⟩ := g13
 (refine Gq7 H ?_; clear H; (try clear w); intro bl1 w H)
 exact ⟨_, res0 rfl, s, d, m, t, hs, rfl, Ro.Le.refl _, ⟨T3.refl ht hct, hok, .inl ⟨rfl, rfl⟩⟩, H.arr⟩
end
abbrev sA : Str := [47, 97]
theorem X.convB {n : Nat} {ops : Array Oper} {Q : Post} {rest : List Oper} {e : Env} {w : World} {tt : Nat} {pp : String} {af : Array Edge} {g : Option (Nat × Bool)} {d : Nat} {s : Ro} {rs : List Asn} {x : Operand} {bb m c : Nat} (l : Str) (H : Holds s w (row 5 1 (.slice (some ⟨bb, 0, none⟩) m c) m (u8s l) :: rs)) (h : ∀ w', Holds s w' (brow bb 5 m c l :: rs) → L Tryz.prog n ops Q rest (upd e d (.slice (some ⟨bb, 0, none⟩) m c)) w') (hw : wg n ops g e = true := by rfl) (hd : Nat.blt d n = true := by rfl) (hx : ev e x = .slice (some ⟨bb, 0, none⟩) m c := by rfl) : L Tryz.prog n ops Q (⟨some d, .convert 30 30 x, tt, pp, af, g⟩ :: rest) e w := by
 obtain ⟨F1, ⟨hF, hlen, hrw⟩, _, _, hup⟩ := H.upd (i := 0) rfl
 rcases hrw with ⟨hv, _⟩ | ⟨g', cap, cur, hv, _, hg, a1, a2, a3, a4⟩
 ·cases hv
 cases hv
 rw [Nat.mul_one] at a3 a4
 have hsh : w.shape? bb = some (5, cur.size) := by unfold World.shape?; rw [hg]
 have hrun : (convert 30 30 (.slice (some ⟨bb, 0, none⟩) m c)).run Tryz.prog w = .ok (.slice (some ⟨bb, 0, none⟩) m c) (w.freeze ⟨bb, cur.size, none⟩ 1) := by
  simp [convert, run_underlying Tryz.underlying30, run_underlying Tryz.underlying5, markStringish, hsh]
 have hnew : (w.freeze ⟨bb, cur.size, none⟩ 1).heap[bb]? = some (.cells cur 5 (cur.size, cur.size + 1)) := by
  unfold World.freeze
  rw [if_neg (by decide)]
  simp [Array.getElem?_modify, hg]
 have hon : Only [bb] w (w.freeze ⟨bb, cur.size, none⟩ 1) := by
  unfold World.freeze
  rw [if_neg (by decide)]
  refine ⟨rfl, rfl, rfl, by simp, fun k _ hs => ?_⟩
  have : bb ≠ k := fun e => hs (by simp [e])
  simp [Array.getElem?_modify, this]
 have hF1 : F1 = [bb] := hF
 subst hF1
 refine L.val (o := ⟨some d, .convert 30 30 x, tt, pp, af, g⟩) _ _ hw hd (run_v (sm := convert 30 30 (ev e x)) rfl (by rw [hx]; exact hrun)) (h _ ?_)
 refine hup (brow bb 5 m c l) _ [bb] ⟨rfl, cur, _, hnew, a1, a2, a3, a4, ?_, Nat.le_refl _⟩ hon (fun k hk => .inl hk)
 rw [u8s_len, Nat.mul_one] at hlen
 exact hlen
section
variable {s : Ro} {w : World} {R : List Asn}
end
end Go.Proofs.YtgilmcpdpggikaaGreatDoor
