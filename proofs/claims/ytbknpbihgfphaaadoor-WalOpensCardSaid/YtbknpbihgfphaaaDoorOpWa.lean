/- wal: sectors, as plain data and walked. -/
import Derived.Test.YtbknpbihgfphaaaDoorOpK9
import Derived.Test.YtbknpbihgfphaaaDoorOpRc
import Derived.Test.YtbknpbihgfphaaaDoorOpEx
set_option linter.unusedSimpArgs false
set_option linter.unusedVariables false
namespace Go.Proofs.YtbknpbihgfphaaaDoor
open Go Go.RowKit Go.Own
/-- what a sector of the log says, ahead of its sum -/
def contW (c : UInt8) (e : Nat) (r : List UInt8) : List UInt8 := (([c] ++ putN e 4) ++ r) ++ List.replicate (55 - r.length) 0
def secW (c : UInt8) (e : Nat) (r : List UInt8) : List UInt8 := sealL (contW c e r)
theorem contW_len {c : UInt8} {e : Nat} {r : List UInt8} (h : r.length ≤ 55) : (contW c e r).length = 60 := by simp [contW, putN_len]; omega
theorem secW_len {c : UInt8} {e : Nat} {r : List UInt8} (h : r.length ≤ 55) : (secW c e r).length = 64 := by simp [secW, sealL, contW_len h, putN_len]
theorem fillW1 (c : UInt8) (e : Nat) : ((List.replicate 60 (Value.int .u8 0)).set (0 + 0 * 1) (.int .u8 (c.toNat : Int))).take 1 ++ ((u8s (putN e 4)).take 59 ++ ((List.replicate 60 (Value.int .u8 0)).set (0 + 0 * 1) (.int .u8 (c.toNat : Int))).drop (1 + 4)) = u8s ([c] ++ putN e 4) ++ List.replicate 55 (Value.int .u8 0) := by
  rw [List.take_of_length_le (l := u8s (putN e 4)) (by rw [u8s_len, putN_len]; decide), u8s_app, show u8s [c] = [.int .u8 (c.toNat : Int)] from rfl]
  rfl
theorem fillW2 (l r : List UInt8) (hl : l.length = 5) (h : r.length ≤ 55) : (u8s l ++ List.replicate 55 (Value.int .u8 0)).take 5 ++ ((u8s r).take 55 ++ (u8s l ++ List.replicate 55 (Value.int .u8 0)).drop (5 + r.length)) = u8s ((l ++ r) ++ List.replicate (55 - r.length) 0) := by
  have h5 : (u8s l).length = 5 := by rw [u8s_len, hl]
  have hr : (u8s r).length = r.length := u8s_len r
  rw [List.take_of_length_le (l := u8s r) (by omega), List.take_append_of_le_length (by omega), List.take_of_length_le (by omega), List.drop_append, List.drop_eq_nil_of_le (by omega), List.nil_append, h5, List.drop_replicate, show 5 + r.length - 5 = r.length by omega, u8s_app, u8s_app, List.append_assoc]
  congr 2
  simp [u8s, u8]
section
variable {s : Ro} {w : World} {R : List Asn}
set_option maxRecDepth 100000 in
set_option maxHeartbeats 1000000 in
theorem Put_e {n size : Nat} (H : Holds s w R) (h1 : 1 ≤ size) (h8 : size ≤ 8) : Calls Tryd.prog 98 #[.int .u64 (n : Int), .int .i64 (size : Int)] w fun e w' => ∃ g, e = .returned (.slice (some ⟨g, 0, none⟩) (putN n size).length size) ∧ Only [] w w' ∧ Holds s w' (row 5 1 (.slice (some ⟨g, 0, none⟩) (putN n size).length size) (putN n size).length (u8s (putN n size)) :: R) :=
  (Put_s H.full h1 h8).mono fun e w' ⟨g, he, H'⟩ => ⟨g, he, H.pure1 H'⟩
end
section
variable {s : Ro} {w : World} {R : List Asn}
set_option maxRecDepth 100000 in
set_option maxHeartbeats 1000000 in
theorem sector_w {c : UInt8} {e : Nat} {r : List UInt8} {v : Value} (hN : Nib s) (H : Holds s w R) (h : Src s R v 1 r.length (u8s r)) (hr : r.length ≤ 55) (he : e < 2 ^ 32) : Calls Tryd.prog 125 #[.int .u8 (c.toNat : Int), .int .u32 (e : Int), v] w fun x w' => ∃ aa cc, x = .returned (.slice aa (secW c e r).length cc) ∧ Holds s w' (row 5 1 (.slice aa (secW c e r).length cc) (secW c e r).length (u8s (secW c e r)) :: R) := by
  have we : e % 2 ^ 64 = e := Nat.mod_eq_of_lt (by omega)
  have hp4 := putN_len e 4
  obtain ⟨va, vc, rfl, _, hvc, hvm⟩ := h.form H
  refine enter Tryd.func125 rfl Tryd.ntmps125 rfl ?_
  repeat' (first | refine Z H ?_ | (refine Zc ?_ ?_ <;> intro hc <;> first | (exfalso; omega) | skip) | (refine Y ?_; try change C _ _ _ _ _ _) | (refine Zs H ?_; clear H; (try clear w); intro w H) | (refine Zn H ?_; clear H; (try clear w); intro _ w H) | (refine Ze H ?_; clear H; (try clear w); intro gv w H))
  refine K.make (k := 60) (m := 60) H rfl rfl rfl rfl rfl (by decide) (by decide) (by decide) ?_
  clear H
  intro g1 w H
  rw [rep_flat] at H
  repeat' (first | (refine K.ia (i := 0) rfl rfl rfl rfl rfl (by decide) ?_) | (refine X.rst H ?_ (hl := by simp); clear H; (try clear w); intro w H) | refine Z H ?_ | (refine Zc ?_ ?_ <;> intro hc <;> first | (exfalso; omega) | skip) | (refine Y ?_; try change C _ _ _ _ _ _) | (refine Zs H ?_; clear H; (try clear w); intro w H) | (refine Zn H ?_; clear H; (try clear w); intro _ w H) | (refine Ze H ?_; clear H; (try clear w); intro gv w H))
  refine C.drawn5 [0, 1, 2, 3, 4, 5] [0, 0, 0, 0, 3, 3] [5, 1] [0, 1, 0, 4, 12, 31] (by kernel_rfl) ?_; replace H := H.drew; simp only [Reg.pick, List.filterMap_cons, List.filterMap_nil, List.getElem?_toArray, List.getElem?_cons_zero, List.getElem?_cons_succ, segN, List.take_succ_cons, List.take_zero, List.drop_succ_cons, List.drop_zero]
  repeat' (first | (refine K.from (l := 1) rfl rfl rfl rfl (by rfl) (by decide) ?_) | (refine B.conv Tryd.underlying32 ?_; rw [we]) | refine Z H ?_ | (refine Zc ?_ ?_ <;> intro hc <;> first | (exfalso; omega) | skip) | (refine Y ?_; try change C _ _ _ _ _ _) | (refine Zs H ?_; clear H; (try clear w); intro w H) | (refine Zn H ?_; clear H; (try clear w); intro _ w H) | (refine Ze H ?_; clear H; (try clear w); intro gv w H))
  (refine X.call (Put_e (n := e) (size := 4) H (by decide) (by decide)) ?_; (try clear H); rintro _ w ⟨g2, rfl, ho, H⟩; refine ⟨_, rfl, ?_⟩); refine L.nil ?_; refine ⟨rfl, rfl, (by first | exact fun h => Bool.noConfusion (show false = true from h) | exact fun _ => ext_same | exact fun _ => ext_only (by assumption)), ?_⟩
  clear ho
  repeat' (first | refine Z H ?_ | (refine Zc ?_ ?_ <;> intro hc <;> first | (exfalso; omega) | skip) | (refine Y ?_; try change C _ _ _ _ _ _) | (refine Zs H ?_; clear H; (try clear w); intro w H) | (refine Zn H ?_; clear H; (try clear w); intro _ w H) | (refine Ze H ?_; clear H; (try clear w); intro gv w H))
  refine K.copyR 1 H rfl (.own 0 _ rfl) (u8s_one _) (q := 4) (off := 1) (dl := 59) (by rw [hp4]; rfl) (by decide) rfl rfl rfl ?_
  clear H
  intro w H
  rw [List.set_cons_succ, List.set_cons_zero, fillW1] at H
  refine L.nil ?_; refine ⟨rfl, rfl, (by first | exact fun h => Bool.noConfusion (show false = true from h) | exact fun _ => ext_same | exact fun _ => ext_only (by assumption)), ?_⟩
  repeat' (first | (refine K.from (l := 5) rfl rfl rfl rfl (by rfl) (by decide) ?_) | refine Z H ?_ | (refine Zc ?_ ?_ <;> intro hc <;> first | (exfalso; omega) | skip) | (refine Y ?_; try change C _ _ _ _ _ _) | (refine Zs H ?_; clear H; (try clear w); intro w H) | (refine Zn H ?_; clear H; (try clear w); intro _ w H) | (refine Ze H ?_; clear H; (try clear w); intro gv w H))
  refine K.copyR (g := g1) (m := 60) 1 H rfl h.skip.skip (u8s_one _) (q := r.length) (off := 5) (dl := 55) (Nat.min_eq_left hr) (by decide) rfl rfl rfl ?_
  clear H
  intro w H
  rw [List.set_cons_succ, List.set_cons_zero, fillW2 _ _ (by simp [putN_len]) hr] at H
  repeat' (first | refine Z H ?_ | (refine Zc ?_ ?_ <;> intro hc <;> first | (exfalso; omega) | skip) | (refine Y ?_; try change C _ _ _ _ _ _) | (refine Zs H ?_; clear H; (try clear w); intro w H) | (refine Zn H ?_; clear H; (try clear w); intro _ w H) | (refine Ze H ?_; clear H; (try clear w); intro gv w H))
  have hcl := contW_len (c := c) (e := e) hr
  have H' : Holds s w (row 5 1 (.slice (some ⟨g1, 0, none⟩) (contW c e r).length 60) (contW c e r).length (u8s (contW c e r)) :: R) := by
    rw [hcl]
    exact H.tail
  clear H
  have hS := Seal_s (a := some ⟨g1, 0, none⟩) (c := 60) hN H' (.own 0 _ rfl) (by omega)
  rw [hcl, show sealL (contW c e r) = secW c e r from rfl] at hS
  (refine X.call (hS) ?_; (try clear H); rintro _ w ⟨aa, cc, rfl, H⟩; refine ⟨_, rfl, ?_⟩)
  repeat' (first | refine Z H ?_ | (refine Zc ?_ ?_ <;> intro hc <;> first | (exfalso; omega) | skip) | (refine Y ?_; try change C _ _ _ _ _ _) | (refine Zs H ?_; clear H; (try clear w); intro w H) | (refine Zn H ?_; clear H; (try clear w); intro _ w H) | (refine Ze H ?_; clear H; (try clear w); intro gv w H))
  exact ⟨_, resT rfl, aa, cc, rfl, H.arr⟩
set_option maxRecDepth 100000 in
set_option maxHeartbeats 1000000 in
theorem headSector_w {e h : Nat} (hN : Nib s) (H : Holds s w R) (he : e < 2 ^ 32) (hh : h < 256) : Calls Tryd.prog 122 #[.int .u32 (e : Int), .int .i64 (h : Int)] w fun x w' => ∃ aa cc, x = .returned (.slice aa (secW 72 e [UInt8.ofNat h]).length cc) ∧ Holds s w' (row 5 1 (.slice aa (secW 72 e [UInt8.ofNat h]).length cc) (secW 72 e [UInt8.ofNat h]).length (u8s (secW 72 e [UInt8.ofNat h])) :: R) := by
  have wh : h % 2 ^ 8 = h := Nat.mod_eq_of_lt hh
  have hu : ((UInt8.ofNat h).toNat : Int) = (h : Int) := by rw [UInt8.toNat_ofNat']; omega
  refine enter Tryd.func122 rfl Tryd.ntmps122 rfl ?_
  repeat' (first | (refine B.conv Tryd.underlying3 ?_; rw [wh]) | refine Z H ?_ | (refine Zc ?_ ?_ <;> intro hc <;> first | (exfalso; omega) | skip) | (refine Y ?_; try change C _ _ _ _ _ _) | (refine Zs H ?_; clear H; (try clear w); intro w H) | (refine Zn H ?_; clear H; (try clear w); intro _ w H) | (refine Ze H ?_; clear H; (try clear w); intro gv w H))
  refine K.one H rfl rfl (by conv => lhs; whnf) (by rfl) (by rfl) ?_; clear H; (try clear w); intro g1 w H
  have H' : Holds s w (row 5 1 (.slice (some ⟨g1, 0, none⟩) [UInt8.ofNat h].length 1) [UInt8.ofNat h].length (u8s [UInt8.ofNat h]) :: R) := by
    rw [← hu] at H
    exact H
  clear H
  repeat' (first | refine Z H ?_ | (refine Zc ?_ ?_ <;> intro hc <;> first | (exfalso; omega) | skip) | (refine Y ?_; try change C _ _ _ _ _ _) | (refine Zs H ?_; clear H; (try clear w); intro w H) | (refine Zn H ?_; clear H; (try clear w); intro _ w H) | (refine Ze H ?_; clear H; (try clear w); intro gv w H))
  (refine X.call (sector_w (c := 72) (e := e) hN H' (.own 0 _ rfl) (by simp) he) ?_; (try clear H); rintro _ w ⟨aa, cc, rfl, H⟩; refine ⟨_, rfl, ?_⟩)
  repeat' (first | refine Z H ?_ | (refine Zc ?_ ?_ <;> intro hc <;> first | (exfalso; omega) | skip) | (refine Y ?_; try change C _ _ _ _ _ _) | (refine Zs H ?_; clear H; (try clear w); intro w H) | (refine Zn H ?_; clear H; (try clear w); intro _ w H) | (refine Ze H ?_; clear H; (try clear w); intro gv w H))
  exact ⟨_, resT rfl, aa, cc, rfl, H.arr⟩
set_option maxRecDepth 100000 in
set_option maxHeartbeats 1000000 in
theorem markSector_w {e h : Nat} (hN : Nib s) (H : Holds s w R) (he : e < 2 ^ 32) (hh : h < 256) : Calls Tryd.prog 111 #[.int .u32 (e : Int), .int .i64 (h : Int)] w fun x w' => ∃ aa cc, x = .returned (.slice aa (secW 67 e [UInt8.ofNat h]).length cc) ∧ Holds s w' (row 5 1 (.slice aa (secW 67 e [UInt8.ofNat h]).length cc) (secW 67 e [UInt8.ofNat h]).length (u8s (secW 67 e [UInt8.ofNat h])) :: R) := by
  have wh : h % 2 ^ 8 = h := Nat.mod_eq_of_lt hh
  have hu : ((UInt8.ofNat h).toNat : Int) = (h : Int) := by rw [UInt8.toNat_ofNat']; omega
  refine enter Tryd.func111 rfl Tryd.ntmps111 rfl ?_
  repeat' (first | (refine B.conv Tryd.underlying3 ?_; rw [wh]) | refine Z H ?_ | (refine Zc ?_ ?_ <;> intro hc <;> first | (exfalso; omega) | skip) | (refine Y ?_; try change C _ _ _ _ _ _) | (refine Zs H ?_; clear H; (try clear w); intro w H) | (refine Zn H ?_; clear H; (try clear w); intro _ w H) | (refine Ze H ?_; clear H; (try clear w); intro gv w H))
  refine K.one H rfl rfl (by conv => lhs; whnf) (by rfl) (by rfl) ?_; clear H; (try clear w); intro g1 w H
  have H' : Holds s w (row 5 1 (.slice (some ⟨g1, 0, none⟩) [UInt8.ofNat h].length 1) [UInt8.ofNat h].length (u8s [UInt8.ofNat h]) :: R) := by
    rw [← hu] at H
    exact H
  clear H
  repeat' (first | refine Z H ?_ | (refine Zc ?_ ?_ <;> intro hc <;> first | (exfalso; omega) | skip) | (refine Y ?_; try change C _ _ _ _ _ _) | (refine Zs H ?_; clear H; (try clear w); intro w H) | (refine Zn H ?_; clear H; (try clear w); intro _ w H) | (refine Ze H ?_; clear H; (try clear w); intro gv w H))
  (refine X.call (sector_w (c := 67) (e := e) hN H' (.own 0 _ rfl) (by simp) he) ?_; (try clear H); rintro _ w ⟨aa, cc, rfl, H⟩; refine ⟨_, rfl, ?_⟩)
  repeat' (first | refine Z H ?_ | (refine Zc ?_ ?_ <;> intro hc <;> first | (exfalso; omega) | skip) | (refine Y ?_; try change C _ _ _ _ _ _) | (refine Zs H ?_; clear H; (try clear w); intro w H) | (refine Zn H ?_; clear H; (try clear w); intro _ w H) | (refine Ze H ?_; clear H; (try clear w); intro gv w H))
  exact ⟨_, resT rfl, aa, cc, rfl, H.arr⟩
set_option maxRecDepth 100000 in
set_option maxHeartbeats 1000000 in
theorem Grow_w {m : Nat} (H : Holds s w R) (h0 : 0 < m) (hm : m ≤ 1000) : Calls Tryd.prog 131 #[.slice none 0 0, .int .i64 (m : Int)] w fun x w' => ∃ g cc, x = .returned (.slice (some ⟨g, 0, none⟩) 0 cc) ∧ Holds s w' (row 5 1 (.slice (some ⟨g, 0, none⟩) 0 cc) 0 [] :: R) := by
  refine enter Tryd.func131 rfl Tryd.ntmps131 rfl ?_
  repeat' (first | (refine K.cap rfl rfl rfl ?_) | (refine K.upto (l := 0) rfl rfl rfl rfl (by rfl) (by omega) ?_) | (refine K.grow (m := m) (u := .int .u8 0) H Tryd.underlying3 rfl rfl rfl rfl rfl (by omega) h0 (by omega) ?_; clear H; intro gg cc w H) | refine Z H ?_ | (refine Zc ?_ ?_ <;> intro hc <;> first | (exfalso; omega) | skip) | (refine Y ?_; try change C _ _ _ _ _ _) | (refine Zs H ?_; clear H; (try clear w); intro w H) | (refine Zn H ?_; clear H; (try clear w); intro _ w H) | (refine Ze H ?_; clear H; (try clear w); intro gv w H))
  · have H1 := H.fewer (m := 0) 0 rfl (Nat.zero_le _)
    exact ⟨_, resT rfl, _, _, rfl, H1⟩
set_option maxRecDepth 100000 in
set_option maxHeartbeats 1000000 in
theorem Concat_w {l m : List UInt8} {v u : Value} {g : Nat} (H : Holds s w (row 37 1 (.slice (some ⟨g, 0, none⟩) 2 2) 2 [v, u] :: R)) (h1 : Src s R v 1 l.length (u8s l)) (h2 : Src s R u 1 m.length (u8s m)) (h0 : 0 < l.length) (hl : l.length ≤ 500) (hm : m.length ≤ 500) : Calls Tryd.prog 126 #[.slice (some ⟨g, 0, none⟩) 2 2] w fun x w' => ∃ aa cc, x = .returned (.slice aa (l ++ m).length cc) ∧ Holds s w' (row 5 1 (.slice aa (l ++ m).length cc) (l ++ m).length (u8s (l ++ m)) :: row 37 1 (.slice (some ⟨g, 0, none⟩) 2 2) 2 [v, u] :: R) := by
  obtain ⟨va, vc, rfl, _, _, _⟩ := h1.form H.tail
  obtain ⟨ua, uc, rfl, _, _, _⟩ := h2.form H.tail
  have e0 : ([.slice va l.length vc, .slice ua m.length uc] : List Value)[0 + 0 * 1]? = some (.slice va l.length vc) := rfl
  have e1 : ([.slice va l.length vc, .slice ua m.length uc] : List Value)[0 + 1 * 1]? = some (.slice ua m.length uc) := rfl
  refine enter Tryd.func126 rfl Tryd.ntmps126 rfl ?_
  repeat' (first | refine Z H ?_ | (refine Zc ?_ ?_ <;> intro hc <;> first | (exfalso; omega) | skip) | (refine Y ?_; try change C _ _ _ _ _ _) | (refine Zs H ?_; clear H; (try clear w); intro w H) | (refine Zn H ?_; clear H; (try clear w); intro _ w H) | (refine Ze H ?_; clear H; (try clear w); intro gv w H))
  refine C.loopH H [3, 5, 11, 12, 13, 14, 15, 16, 17, 18, 19, 20, 21, 22] [3, 11] rfl (fun k vs => (k = 2 ∧ vs = [.int .i64 0, .int .i64 0]) ∨ (k = 1 ∧ vs = [.int .i64 (l.length : Int), .int .i64 1]) ∨ (k = 0 ∧ vs = [.int .i64 ((l.length + m.length : Nat) : Int), .int .i64 2])) 2 (.inl ⟨rfl, rfl⟩) ?_
  clear H
  rintro k vs hv w (⟨rfl, rfl⟩ | ⟨rfl, rfl⟩ | ⟨rfl, rfl⟩) H
  · repeat' (first | (refine K.ia (i := 0) rfl rfl rfl rfl rfl (by decide) ?_) | refine Z H ?_ | (refine Zc ?_ ?_ <;> intro hc <;> first | (exfalso; omega) | skip) | (refine Y ?_; try change C _ _ _ _ _ _) | (refine Zs H ?_; clear H; (try clear w); intro w H) | (refine Zn H ?_; clear H; (try clear w); intro _ w H) | (refine Ze H ?_; clear H; (try clear w); intro gv w H))
    exact ⟨by (repeat (first | exact Agr.refl | exact Agr.hav | refine Agr.upd rfl ?_ | refine Agr.in rfl ?_)), 1, by decide, .inr (.inl ⟨rfl, by rw [Int.zero_add]; rfl⟩), H⟩
  · repeat' (first | (refine K.ia (i := 1) rfl rfl rfl rfl rfl (by decide) ?_) | refine Z H ?_ | (refine Zc ?_ ?_ <;> intro hc <;> first | (exfalso; omega) | skip) | (refine Y ?_; try change C _ _ _ _ _ _) | (refine Zs H ?_; clear H; (try clear w); intro w H) | (refine Zn H ?_; clear H; (try clear w); intro _ w H) | (refine Ze H ?_; clear H; (try clear w); intro gv w H))
    exact ⟨by (repeat (first | exact Agr.refl | exact Agr.hav | refine Agr.upd rfl ?_ | refine Agr.in rfl ?_)), 0, by decide, .inr (.inr ⟨rfl, by rw [Int.natCast_add]; rfl⟩), H⟩
  · repeat' (first | refine Z H ?_ | (refine Zc ?_ ?_ <;> intro hc <;> first | (exfalso; omega) | skip) | (refine Y ?_; try change C _ _ _ _ _ _) | (refine Zs H ?_; clear H; (try clear w); intro w H) | (refine Zn H ?_; clear H; (try clear w); intro _ w H) | (refine Ze H ?_; clear H; (try clear w); intro gv w H))
    (refine X.call (Grow_w (m := l.length + m.length) H (by omega) (by omega)) ?_; (try clear H); rintro _ w ⟨g2, c2, rfl, H⟩; refine ⟨_, rfl, ?_⟩)
    repeat' (first | refine Z H ?_ | (refine Zc ?_ ?_ <;> intro hc <;> first | (exfalso; omega) | skip) | (refine Y ?_; try change C _ _ _ _ _ _) | (refine Zs H ?_; clear H; (try clear w); intro w H) | (refine Zn H ?_; clear H; (try clear w); intro _ w H) | (refine Ze H ?_; clear H; (try clear w); intro gv w H))
    have H' : Holds s w (row 5 1 (.slice (some ⟨g2, 0, none⟩) 0 c2) 0 [] :: row 37 1 (.slice (some ⟨g, 0, none⟩) 2 2) 2 [.slice va l.length vc, .slice ua m.length uc] :: R) := H
    clear H
    refine C.loopS [6, 8, 27, 28, 29, 30, 31, 32, 33, 34] [6, 27] rfl (fun k vs w => ∃ n aa cc, vs = [.slice aa n cc, .int .i64 ((2 - k : Nat) : Int)] ∧ k ≤ 2 ∧ ∃ q, Holds s w (row 5 1 (.slice aa n cc) n (u8s q) :: row 37 1 (.slice (some ⟨g, 0, none⟩) 2 2) 2 [.slice va l.length vc, .slice ua m.length uc] :: R) ∧ n = q.length ∧ ((k = 2 ∧ q = []) ∨ (k = 1 ∧ q = l) ∨ (k = 0 ∧ q = l ++ m))) 2 ⟨0, _, _, rfl, Nat.le_refl _, [], H', rfl, .inl ⟨rfl, rfl⟩⟩ ?_
    clear H'
    rintro k vs hv w ⟨n, aa, cc, rfl, hk, q, H, rfl, (⟨rfl, rfl⟩ | ⟨rfl, rfl⟩ | ⟨rfl, rfl⟩)⟩
    · repeat' (first | (refine K.ia (i := 0) rfl rfl rfl rfl rfl (by decide) ?_) | (refine K.app 0 H rfl h1.skip.skip (u8s_one _) (by unfold maxLen; simp; omega) (by simp; omega) rfl rfl rfl ?_; clear H; intro a3 c3 w H) | refine Z H ?_ | (refine Zc ?_ ?_ <;> intro hc <;> first | (exfalso; omega) | skip) | (refine Y ?_; try change C _ _ _ _ _ _) | (refine Zs H ?_; clear H; (try clear w); intro w H) | (refine Zn H ?_; clear H; (try clear w); intro _ w H) | (refine Ze H ?_; clear H; (try clear w); intro gv w H))
      exact ⟨by (repeat (first | exact Agr.refl | exact Agr.hav | refine Agr.upd rfl ?_ | refine Agr.in rfl ?_)), 1, by decide, _, a3, c3, rfl, by decide, l, (by rw [List.length_nil, Nat.zero_add] at *; exact H), Nat.zero_add _, .inr (.inl ⟨rfl, rfl⟩)⟩
    · repeat' (first | (refine K.ia (i := 1) rfl rfl rfl rfl rfl (by decide) ?_) | (refine K.app 0 H rfl h2.skip.skip (u8s_one _) (by unfold maxLen; simp; omega) (by simp; omega) rfl rfl rfl ?_; clear H; intro a3 c3 w H) | refine Z H ?_ | (refine Zc ?_ ?_ <;> intro hc <;> first | (exfalso; omega) | skip) | (refine Y ?_; try change C _ _ _ _ _ _) | (refine Zs H ?_; clear H; (try clear w); intro w H) | (refine Zn H ?_; clear H; (try clear w); intro _ w H) | (refine Ze H ?_; clear H; (try clear w); intro gv w H))
      rw [List.set_cons_zero, ← u8s_app, ← List.length_append] at *
      exact ⟨by (repeat (first | exact Agr.refl | exact Agr.hav | refine Agr.upd rfl ?_ | refine Agr.in rfl ?_)), 0, by decide, _, a3, c3, rfl, by decide, q ++ m, H, rfl, .inr (.inr ⟨rfl, rfl⟩)⟩
    · repeat' (first | refine Z H ?_ | (refine Zc ?_ ?_ <;> intro hc <;> first | (exfalso; omega) | skip) | (refine Y ?_; try change C _ _ _ _ _ _) | (refine Zs H ?_; clear H; (try clear w); intro w H) | (refine Zn H ?_; clear H; (try clear w); intro _ w H) | (refine Ze H ?_; clear H; (try clear w); intro gv w H))
      exact ⟨_, resT rfl, aa, cc, rfl, H⟩
theorem u8_nat {h : Nat} (hh : h < 256) : (.int .u8 (h : Int) : Value) = .int .u8 ((UInt8.ofNat h).toNat : Int) := by
  have : ((UInt8.ofNat h).toNat : Int) = (h : Int) := by rw [UInt8.toNat_ofNat']; omega
  rw [this]
set_option maxRecDepth 100000 in
set_option maxHeartbeats 1000000 in
theorem pageSector_w {e p : Nat} {m : List UInt8} {u : Value} (hN : Nib s) (H : Holds s w R) (he : e < 2 ^ 32) (hp : p < 256) (hu : Src s R u 1 m.length (u8s m)) (hm : m.length = 40) : Calls Tryd.prog 121 #[.int .u32 (e : Int), .int .i64 (p : Int), u] w fun x w' => ∃ aa cc, x = .returned (.slice aa (secW 80 e ([UInt8.ofNat p] ++ m)).length cc) ∧ Holds s w' (row 5 1 (.slice aa (secW 80 e ([UInt8.ofNat p] ++ m)).length cc) (secW 80 e ([UInt8.ofNat p] ++ m)).length (u8s (secW 80 e ([UInt8.ofNat p] ++ m))) :: R) := by
  have wh : p % 2 ^ 8 = p := Nat.mod_eq_of_lt hp
  have hq := u8_nat hp
  obtain ⟨ua, uc, rfl, _, _, _⟩ := hu.form H
  refine enter Tryd.func121 rfl Tryd.ntmps121 rfl ?_
  repeat' (first | (refine B.conv Tryd.underlying3 ?_; rw [wh]) | refine Z H ?_ | (refine Zc ?_ ?_ <;> intro hc <;> first | (exfalso; omega) | skip) | (refine Y ?_; try change C _ _ _ _ _ _) | (refine Zs H ?_; clear H; (try clear w); intro w H) | (refine Zn H ?_; clear H; (try clear w); intro _ w H) | (refine Ze H ?_; clear H; (try clear w); intro gv w H))
  refine K.one H rfl rfl (by conv => lhs; whnf) (by rfl) (by rfl) ?_; clear H; (try clear w); intro g1 w H
  have H' : Holds s w (row 5 1 (.slice (some ⟨g1, 0, none⟩) [UInt8.ofNat p].length 1) [UInt8.ofNat p].length (u8s [UInt8.ofNat p]) :: R) := by
    rw [hq] at H
    exact H
  clear H
  have H := H'
  clear H'
  repeat' (first | (refine K.two H rfl rfl rfl rfl rfl ?_; clear H; intro g2 w H) | refine Z H ?_ | (refine Zc ?_ ?_ <;> intro hc <;> first | (exfalso; omega) | skip) | (refine Y ?_; try change C _ _ _ _ _ _) | (refine Zs H ?_; clear H; (try clear w); intro w H) | (refine Zn H ?_; clear H; (try clear w); intro _ w H) | (refine Ze H ?_; clear H; (try clear w); intro gv w H))
  (refine X.call (Concat_w (l := [UInt8.ofNat p]) (m := m) H (.own 0 _ rfl) hu.skip (by simp) (by simp) (by omega)) ?_; (try clear H); rintro _ w ⟨a3, c3, rfl, H⟩; refine ⟨_, rfl, ?_⟩)
  repeat' (first | refine Z H ?_ | (refine Zc ?_ ?_ <;> intro hc <;> first | (exfalso; omega) | skip) | (refine Y ?_; try change C _ _ _ _ _ _) | (refine Zs H ?_; clear H; (try clear w); intro w H) | (refine Zn H ?_; clear H; (try clear w); intro _ w H) | (refine Ze H ?_; clear H; (try clear w); intro gv w H))
  (refine X.call (sector_w (c := 80) (e := e) hN H (.own 0 _ rfl) (by simp [hm]) he) ?_; (try clear H); rintro _ w ⟨aa, cc, rfl, H⟩; refine ⟨_, rfl, ?_⟩)
  repeat' (first | refine Z H ?_ | (refine Zc ?_ ?_ <;> intro hc <;> first | (exfalso; omega) | skip) | (refine Y ?_; try change C _ _ _ _ _ _) | (refine Zs H ?_; clear H; (try clear w); intro w H) | (refine Zn H ?_; clear H; (try clear w); intro _ w H) | (refine Ze H ?_; clear H; (try clear w); intro gv w H))
  exact ⟨_, resT rfl, aa, cc, rfl, H.arr⟩
set_option maxRecDepth 100000 in
set_option maxHeartbeats 1000000 in
theorem recordSector_w {e at' p : Nat} {m : List UInt8} {u : Value} (hN : Nib s) (H : Holds s w R) (he : e < 2 ^ 32) (ha : at' < 256) (hp : p < 256) (hu : Src s R u 1 m.length (u8s m)) (hm : m.length = 40) : Calls Tryd.prog 110 #[.int .u32 (e : Int), .int .i64 (at' : Int), .agg #[.int .i64 (p : Int), u]] w fun x w' => ∃ aa cc, x = .returned (.slice aa (secW 82 e ([UInt8.ofNat at', UInt8.ofNat p] ++ m)).length cc) ∧ Holds s w' (row 5 1 (.slice aa (secW 82 e ([UInt8.ofNat at', UInt8.ofNat p] ++ m)).length cc) (secW 82 e ([UInt8.ofNat at', UInt8.ofNat p] ++ m)).length (u8s (secW 82 e ([UInt8.ofNat at', UInt8.ofNat p] ++ m))) :: R) := by
  have wh : p % 2 ^ 8 = p := Nat.mod_eq_of_lt hp
  have wa : at' % 2 ^ 8 = at' := Nat.mod_eq_of_lt ha
  have hq := u8_nat hp
  have hqa := u8_nat ha
  obtain ⟨ua, uc, rfl, _, _, _⟩ := hu.form H
  refine enter Tryd.func110 rfl Tryd.ntmps110 rfl ?_
  repeat' (first | (refine B.conv Tryd.underlying3 ?_; first | rw [wh] | rw [wa]) | refine Z H ?_ | (refine Zc ?_ ?_ <;> intro hc <;> first | (exfalso; omega) | skip) | (refine Y ?_; try change C _ _ _ _ _ _) | (refine Zs H ?_; clear H; (try clear w); intro w H) | (refine Zn H ?_; clear H; (try clear w); (first | ((fail_if_success (have := bl1)); intro bl1 w H) | intro _ w H)) | (refine Ze H ?_; clear H; (try clear w); intro gv w H))
  refine K.two H rfl rfl rfl rfl rfl ?_
  clear H
  intro g1 w H
  have H' : Holds s w (row 5 1 (.slice (some ⟨g1, 0, none⟩) [UInt8.ofNat at', UInt8.ofNat p].length 2) [UInt8.ofNat at', UInt8.ofNat p].length (u8s [UInt8.ofNat at', UInt8.ofNat p]) :: var bl1 98 [.int .i64 (p : Int), .slice ua m.length uc] :: R) := by
    rw [hq, hqa] at H
    exact H
  clear H
  have H := H'
  clear H'
  repeat' (first | (refine K.two H rfl rfl rfl rfl rfl ?_; clear H; intro g2 w H) | refine Z H ?_ | (refine Zc ?_ ?_ <;> intro hc <;> first | (exfalso; omega) | skip) | (refine Y ?_; try change C _ _ _ _ _ _) | (refine Zs H ?_; clear H; (try clear w); intro w H) | (refine Zn H ?_; clear H; (try clear w); (first | ((fail_if_success (have := bl1)); intro bl1 w H) | intro _ w H)) | (refine Ze H ?_; clear H; (try clear w); intro gv w H))
  (refine X.call (Concat_w (l := [UInt8.ofNat at', UInt8.ofNat p]) (m := m) H (.own 0 _ rfl) hu.skip.skip (by simp) (by simp) (by omega)) ?_; (try clear H); rintro _ w ⟨a3, c3, rfl, H⟩; refine ⟨_, rfl, ?_⟩)
  repeat' (first | refine Z H ?_ | (refine Zc ?_ ?_ <;> intro hc <;> first | (exfalso; omega) | skip) | (refine Y ?_; try change C _ _ _ _ _ _) | (refine Zs H ?_; clear H; (try clear w); intro w H) | (refine Zn H ?_; clear H; (try clear w); (first | ((fail_if_success (have := bl1)); intro bl1 w H) | intro _ w H)) | (refine Ze H ?_; clear H; (try clear w); intro gv w H))
  (refine X.call (sector_w (c := 82) (e := e) hN H (.own 0 _ rfl) (by simp [hm]) he) ?_; (try clear H); rintro _ w ⟨aa, cc, rfl, H⟩; refine ⟨_, rfl, ?_⟩)
  repeat' (first | refine Z H ?_ | (refine Zc ?_ ?_ <;> intro hc <;> first | (exfalso; omega) | skip) | (refine Y ?_; try change C _ _ _ _ _ _) | (refine Zs H ?_; clear H; (try clear w); intro w H) | (refine Zn H ?_; clear H; (try clear w); (first | ((fail_if_success (have := bl1)); intro bl1 w H) | intro _ w H)) | (refine Ze H ?_; clear H; (try clear w); intro gv w H))
  exact ⟨_, resT rfl, aa, cc, rfl, H.arr⟩
end
end Go.Proofs.YtbknpbihgfphaaaDoor
