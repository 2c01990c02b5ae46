/- nacelleref17, walked exactly: New, Used, spare; the plain steps of a file's growing. nacelleref17, walked weakly: Write. -/
import Derived.Test.YtlchnabnhimlcaaTlLh
set_option linter.unusedSimpArgs false
set_option linter.unusedVariables false
namespace Go.Proofs.Ytlchnabnhimlcaa
open Go Go.RowKit Go.Own
/-- a node's blocks in memory -/
structure BlkAt (s : Ro) (x : RN) (n : Nd) : Prop where
  l : x.nb = (blks n).length
  b : SlS s (.slice x.sa x.nb x.sc) 1 x.nb ((blks n).map fun b => .int .i64 b)
theorem BlkAt.mono {s s' : Ro} {x : RN} {n : Nd} (h : BlkAt s x n) (hs : s.Le s') : BlkAt s' x n := ⟨h.l, h.b.mono hs⟩
def BlkOk (s : Ro) (m : List RN) (x : TR) : Prop := ∀ i, i < 8 → BlkAt s (rn m i) (x.n i)
theorem Doc.blk {s : Ro} {m : List RN} {t : TR} (h : Doc s m t) : BlkOk s m t := fun i hi => ⟨(h.nd i hi).n, (h.nd i hi).b⟩
theorem new_doc {s : Ro} : Doc s ((List.replicate 8 RN.zero).set 0 RN.root) TR.new := ⟨rfl, fun i hi => by
  have h0 : RX s RN.root ⟨1, [47], [], []⟩ := RX.nil
  have hz : RX s RN.zero VN.zero := RX.nil
  match i, hi with
  | 0, _ => exact h0
  | 1, _ => exact hz
  | 2, _ => exact hz
  | 3, _ => exact hz
  | 4, _ => exact hz
  | 5, _ => exact hz
  | 6, _ => exact hz
  | 7, _ => exact hz⟩
theorem mem_blks {n : Nd} {b : Int} (hb : b ≠ 0) : b ∈ blks n ↔ n.b0 = b ∨ n.b1 = b := by
  unfold blks
  by_cases h0 : n.b0 ≠ 0
  · by_cases h1 : n.b1 ≠ 0
    · rw [if_pos h0, if_pos h1]
      simp only [List.mem_append, List.mem_singleton]
      exact ⟨fun h => h.imp (fun e => e.symm) (fun e => e.symm), fun h => h.imp (fun e => e.symm) (fun e => e.symm)⟩
    · rw [if_pos h0, if_neg h1]
      simp only [List.append_nil, List.mem_singleton]
      exact ⟨fun e => .inl e.symm, fun h => h.elim (fun e => e.symm) (fun e => absurd (e ▸ hb) h1)⟩
  · by_cases h1 : n.b1 ≠ 0
    · rw [if_neg h0, if_pos h1]
      simp only [List.nil_append, List.mem_singleton]
      exact ⟨fun e => .inr e.symm, fun h => h.elim (fun e => absurd (e ▸ hb) h0) (fun e => e.symm)⟩
    · rw [if_neg h0, if_neg h1]
      simp only [List.append_nil, List.not_mem_nil, false_iff]
      exact fun h => h.elim (fun e => h0 (e ▸ hb)) (fun e => h1 (e ▸ hb))
theorem hasB_iff {x : TR} (hx : x.Ok) {b : Int} (hb : b ≠ 0) : hasB x b = true ↔ ∃ j, j < 8 ∧ b ∈ blks (x.n j) := by
  unfold hasB
  rw [List.any_eq_true]
  constructor
  · rintro ⟨n, hn, h⟩
    obtain ⟨j, hj, rfl⟩ := List.getElem_of_mem hn
    have hj8 : j < 8 := by rw [hx.n8] at hj; exact hj
    exact ⟨j, hj8, by rw [TR.n_get hx hj8]; exact (mem_blks hb).2 (of_decide_eq_true h)⟩
  · rintro ⟨j, hj, h⟩
    rw [TR.n_get hx hj] at h
    exact ⟨_, List.getElem_mem _, decide_eq_true ((mem_blks hb).1 h)⟩
theorem used_take {x : TR} (hx : x.Ok) {i : Nat} (hi : i < 8) : ((x.nd.take (i + 1)).map Nd.nblk).sum = ((x.nd.take i).map Nd.nblk).sum + (x.n i).nblk := by
  rw [List.take_add_one, TR.n_eq hx hi]
  simp
theorem used_all {x : TR} (hx : x.Ok) : ((x.nd.take 8).map Nd.nblk).sum = usedN x := by
  rw [List.take_of_length_le (by rw [hx.n8]; omega)]
  rfl
section
variable {w : World} {s : Ro} {R : List Asn} {m : List RN} {x : TR}
set_option maxRecDepth 100000 in
set_option maxHeartbeats 1000000 in
theorem New_x (H : Holds s w R) : Calls Try.prog 29 #[] w fun e w' => ∃ m' : List RN, Doc s m' TR.new ∧ e = .returned (.agg (rcells m').toArray) ∧ Holds s w' R := by
  have hz8 : (List.replicate 8 RN.zero).length = 8 := rfl
  have hn : Doc s ((List.replicate 8 RN.zero).set 0 RN.root) TR.new := new_doc
  have hn8 := hn.l8
  refine enter Try.func29 rfl Try.ntmps29 rfl ?_
  repeat' (first | (refine K.iaA (i := 0) rfl rfl rfl rfl rfl (by decide) ?_) | (refine K.build [(0, .int .i64 1), (1, .string ⟨#[47]⟩)] _ build_rnr rfl rfl rfl ?_) | (refine X.stRN (RN.cells RN.root) 0 0 RN.root hz8 (by decide) (Nat.le_refl 4) (by simp [putL, RN.cells]) rfl rfl H ?_; clear H; (try clear w); intro w H) | (refine X.lw H ?_ (hn := rcells_len hn8)) | (refine X.lenL ?_) | (refine X.lv H ?_) | (refine X.lw H ?_) | (refine X.lp H ?_) | (refine X.stR H ?_; clear H; (try clear w); intro w H) | (refine X.eqL ?_ ?_ <;> intro hc <;> first | (exfalso; first | exact absurd hc (by assumption) | exact absurd (by assumption) hc) | skip) | refine Z H ?_ | (refine Zc ?_ ?_ <;> intro hc <;> first | (exfalso; omega) | skip) | (refine Y ?_; try change C _ _ _ _ _ _) | (refine Zs H ?_; clear H; (try clear w); intro w H) | (refine Zn H ?_; clear H; (try clear w); intro _ w H) | (refine Ze H ?_; clear H; (try clear w); intro gv w H))
  exact ⟨_, resV (cs := rcells ((List.replicate 8 RN.zero).set 0 RN.root)) H rfl rfl inferInstance (rcells_len hn8), _, hn, rfl, H.tail.tail⟩
set_option maxRecDepth 100000 in
set_option maxHeartbeats 1000000 in
theorem Used_x (H : Holds s w R) (hm8 : m.length = 8) (hb : BlkOk s m x) (hx : x.Ok) : Calls Try.prog 25 #[.agg (rcells m).toArray] w fun e w' => e = .returned (.int .i64 (usedN x : Nat)) ∧ Holds s w' R := by
  refine enter Try.func25 rfl Try.ntmps25 rfl ?_
  repeat' (first | (refine X.lenL ?_) | (refine X.lv H ?_) | (refine X.lw H ?_) | (refine X.lp H ?_) | (refine X.stR H ?_; clear H; (try clear w); intro w H) | (refine X.eqL ?_ ?_ <;> intro hc <;> first | (exfalso; first | exact absurd hc (by assumption) | exact absurd (by assumption) hc) | skip) | refine Z H ?_ | (refine Zc ?_ ?_ <;> intro hc <;> first | (exfalso; omega) | skip) | (refine Y ?_; try change C _ _ _ _ _ _) | (refine Zs H ?_; clear H; (try clear w); intro w H) | (refine Zn H ?_; clear H; (try clear w); intro _ w H) | (refine Ze H ?_; clear H; (try clear w); intro gv w H))
  refine C.loopH H [3, 4, 5, 6, 7, 8, 9, 10, 11, 12, 13, 14, 15] [3, 4] rfl (fun f vs => ∃ i c : Nat, f = 8 - i ∧ i ≤ 8 ∧ c ≤ 2 * i ∧ c = ((x.nd.take i).map Nd.nblk).sum ∧ vs = [.int .i64 (c : Int), .int .i64 (i : Int)]) 8 ⟨0, 0, rfl, by omega, by omega, rfl, rfl⟩ ?_
  clear H
  rintro f vs hv w ⟨i, c, rfl, hi, hcb, hcs, rfl⟩ H
  by_cases hlt : i < 8
  · have c3 := rcell hm8 hlt 3 _ rfl
    have hfew : (rn m i).nb = (x.n i).nblk := by rw [(hb i hlt).l, blks_nblk]
    have h2 : (rn m i).nb ≤ 2 := by rw [(hb i hlt).l]; exact blks_len _
    repeat' (first | (refine K.iaA (i := i) rfl rfl rfl rfl rfl hlt ?_) | (refine X.lenL ?_) | (refine X.lv H ?_) | (refine X.lw H ?_) | (refine X.lp H ?_) | (refine X.stR H ?_; clear H; (try clear w); intro w H) | (refine X.eqL ?_ ?_ <;> intro hc <;> first | (exfalso; first | exact absurd hc (by assumption) | exact absurd (by assumption) hc) | skip) | refine Z H ?_ | (refine Zc ?_ ?_ <;> intro hc <;> first | (exfalso; omega) | skip) | (refine Y ?_; try change C _ _ _ _ _ _) | (refine Zs H ?_; clear H; (try clear w); intro w H) | (refine Zn H ?_; clear H; (try clear w); intro _ w H) | (refine Ze H ?_; clear H; (try clear w); intro gv w H))
    exact ⟨by (repeat (first | exact Agr.refl | exact Agr.hav | refine Agr.upd rfl ?_ | refine Agr.in rfl ?_)), 8 - (i + 1), by omega, ⟨i + 1, c + (rn m i).nb, rfl, by omega, by omega, by rw [used_take hx hlt, hfew, hcs], rfl⟩, H⟩
  · obtain rfl : i = 8 := by omega
    rw [used_all hx] at hcs
    repeat' (first | (refine X.lenL ?_) | (refine X.lv H ?_) | (refine X.lw H ?_) | (refine X.lp H ?_) | (refine X.stR H ?_; clear H; (try clear w); intro w H) | (refine X.eqL ?_ ?_ <;> intro hc <;> first | (exfalso; first | exact absurd hc (by assumption) | exact absurd (by assumption) hc) | skip) | refine Z H ?_ | (refine Zc ?_ ?_ <;> intro hc <;> first | (exfalso; omega) | skip) | (refine Y ?_; try change C _ _ _ _ _ _) | (refine Zs H ?_; clear H; (try clear w); intro w H) | (refine Zn H ?_; clear H; (try clear w); intro _ w H) | (refine Ze H ?_; clear H; (try clear w); intro gv w H))
    exact ⟨_, resT rfl, by rw [← hcs]; rfl, H.tail⟩
set_option maxRecDepth 100000 in
set_option maxHeartbeats 1000000 in
theorem spare_x (H : Holds s w R) (hm8 : m.length = 8) (hbo : BlkOk s m x) (hx : x.Ok) : Calls Try.prog 57 #[.agg (rcells m).toArray] w fun e w' => e = .returned (.int .i64 (unusedM x : Nat)) ∧ Holds s w' R := by
  refine enter Try.func57 rfl Try.ntmps57 rfl ?_
  repeat' (first | (refine X.lenL ?_) | (refine X.lv H ?_) | (refine X.lw H ?_) | (refine X.lp H ?_) | (refine X.stR H ?_; clear H; (try clear w); intro w H) | (refine X.eqL ?_ ?_ <;> intro hc <;> first | (exfalso; first | exact absurd hc (by assumption) | exact absurd (by assumption) hc) | skip) | refine Z H ?_ | (refine Zc ?_ ?_ <;> intro hc <;> first | (exfalso; omega) | skip) | (refine Y ?_; try change C _ _ _ _ _ _) | (refine Zs H ?_; clear H; (try clear w); intro w H) | (refine Zn H ?_; clear H; (try clear w); intro _ w H) | (refine Ze H ?_; clear H; (try clear w); intro gv w H))
  refine C.loopH H [2, 3, 4, 5, 6, 7, 8, 9, 10, 11, 12, 13, 14, 15, 16, 17, 18, 19, 20, 21, 22, 23, 24, 25, 26, 27, 28, 29, 30, 31, 32, 33, 34, 35, 36, 37, 38] [3] rfl (fun f vs => ∃ b : Nat, f = 9 - b ∧ 1 ≤ b ∧ b ≤ 9 ∧ vs = [.int .i64 (b : Int)] ∧ unusedFrom x (9 - b) b = unusedM x) 8 ⟨1, rfl, by omega, by omega, rfl, rfl⟩ ?_
  clear H
  rintro f vs hv w ⟨b, rfl, hb1, hb9, rfl, hun⟩ H
  by_cases hblt : b < 9
  rotate_left
  · obtain rfl : b = 9 := by omega
    repeat' (first | (refine X.lenL ?_) | (refine X.lv H ?_) | (refine X.lw H ?_) | (refine X.lp H ?_) | (refine X.stR H ?_; clear H; (try clear w); intro w H) | (refine X.eqL ?_ ?_ <;> intro hc <;> first | (exfalso; first | exact absurd hc (by assumption) | exact absurd (by assumption) hc) | skip) | refine Z H ?_ | (refine Zc ?_ ?_ <;> intro hc <;> first | (exfalso; omega) | skip) | (refine Y ?_; try change C _ _ _ _ _ _) | (refine Zs H ?_; clear H; (try clear w); intro w H) | (refine Zn H ?_; clear H; (try clear w); intro _ w H) | (refine Ze H ?_; clear H; (try clear w); intro gv w H))
    exact ⟨_, resT rfl, by rw [← hun]; rfl, H.tail⟩
  rw [show 9 - b = (8 - b) + 1 by omega, unusedFrom] at hun
  have hhas := hasB_iff hx (b := (b : Int)) (by omega)
  repeat' (first | (refine X.lenL ?_) | (refine X.lv H ?_) | (refine X.lw H ?_) | (refine X.lp H ?_) | (refine X.stR H ?_; clear H; (try clear w); intro w H) | (refine X.eqL ?_ ?_ <;> intro hc <;> first | (exfalso; first | exact absurd hc (by assumption) | exact absurd (by assumption) hc) | skip) | refine Z H ?_ | (refine Zc ?_ ?_ <;> intro hc <;> first | (exfalso; omega) | skip) | (refine Y ?_; try change C _ _ _ _ _ _) | (refine Zs H ?_; clear H; (try clear w); intro w H) | (refine Zn H ?_; clear H; (try clear w); intro _ w H) | (refine Ze H ?_; clear H; (try clear w); intro gv w H))
  refine C.loopH H [4, 5, 6, 11, 12, 13, 14, 15, 16, 17, 18, 19, 20, 21, 22, 23, 24, 25, 26, 27, 28, 29, 30, 31, 32, 33, 34, 35] [4, 5] rfl (fun f vs => ∃ (i : Nat) (had : Bool), f = 8 - i ∧ i ≤ 8 ∧ vs = [.bool had, .int .i64 (i : Int)] ∧ (had = true ↔ ∃ j, j < i ∧ (b : Int) ∈ blks (x.n j))) 8 ⟨0, false, rfl, by omega, rfl, ⟨fun h => (by cases h), fun ⟨j, h, _⟩ => absurd h (Nat.not_lt_zero _)⟩⟩ ?_
  clear H
  rintro f vs hv2 w ⟨i, had, rfl, hi, rfl, hhad⟩ H
  by_cases hlt : i < 8
  rotate_left
  · obtain rfl : i = 8 := by omega
    cases had
    · rw [if_neg (fun h => by rw [hhas, ← hhad] at h; cases h)] at hun
      repeat' (first | (refine X.lenL ?_) | (refine X.lv H ?_) | (refine X.lw H ?_) | (refine X.lp H ?_) | (refine X.stR H ?_; clear H; (try clear w); intro w H) | (refine X.eqL ?_ ?_ <;> intro hc <;> first | (exfalso; first | exact absurd hc (by assumption) | exact absurd (by assumption) hc) | skip) | refine Z H ?_ | (refine Zc ?_ ?_ <;> intro hc <;> first | (exfalso; omega) | skip) | (refine Y ?_; try change C _ _ _ _ _ _) | (refine Zs H ?_; clear H; (try clear w); intro w H) | (refine Zn H ?_; clear H; (try clear w); intro _ w H) | (refine Ze H ?_; clear H; (try clear w); intro gv w H))
      exact ⟨_, resT rfl, by rw [← hun]; rfl, H.tail⟩
    · rw [if_pos (hhas.2 (hhad.1 rfl))] at hun
      repeat' (first | (refine X.lenL ?_) | (refine X.lv H ?_) | (refine X.lw H ?_) | (refine X.lp H ?_) | (refine X.stR H ?_; clear H; (try clear w); intro w H) | (refine X.eqL ?_ ?_ <;> intro hc <;> first | (exfalso; first | exact absurd hc (by assumption) | exact absurd (by assumption) hc) | skip) | refine Z H ?_ | (refine Zc ?_ ?_ <;> intro hc <;> first | (exfalso; omega) | skip) | (refine Y ?_; try change C _ _ _ _ _ _) | (refine Zs H ?_; clear H; (try clear w); intro w H) | (refine Zn H ?_; clear H; (try clear w); intro _ w H) | (refine Ze H ?_; clear H; (try clear w); intro gv w H))
      exact ⟨by (repeat (first | exact Agr.refl | exact Agr.hav | refine Agr.upd rfl ?_ | refine Agr.in rfl ?_)), 9 - (b + 1), by omega, ⟨b + 1, rfl, by omega, by omega, rfl, by rw [← hun]; congr 1; omega⟩, H⟩
  have c3 := rcell hm8 hlt 3 _ rfl
  have hbl := (hbo i hlt).l
  have hbs := (hbo i hlt).b
  have hfew : (rn m i).nb ≤ 2 := by rw [hbl]; exact blks_len _
  repeat' (first | (refine X.lenL ?_) | (refine X.lv H ?_) | (refine X.lw H ?_) | (refine X.lp H ?_) | (refine X.stR H ?_; clear H; (try clear w); intro w H) | (refine X.eqL ?_ ?_ <;> intro hc <;> first | (exfalso; first | exact absurd hc (by assumption) | exact absurd (by assumption) hc) | skip) | refine Z H ?_ | (refine Zc ?_ ?_ <;> intro hc <;> first | (exfalso; omega) | skip) | (refine Y ?_; try change C _ _ _ _ _ _) | (refine Zs H ?_; clear H; (try clear w); intro w H) | (refine Zn H ?_; clear H; (try clear w); intro _ w H) | (refine Ze H ?_; clear H; (try clear w); intro gv w H))
  refine C.loopH H [4, 6, 15, 16, 17, 18, 19, 20, 21, 22, 23, 24, 25, 26, 27, 28, 29, 30, 31, 32, 33, 34, 35] [4, 6] rfl (fun f vs => ∃ (k : Nat) (had : Bool), f = (rn m i).nb - k ∧ k ≤ (rn m i).nb ∧ vs = [.bool had, .int .i64 (k : Int)] ∧ (had = true ↔ (∃ j, j < i ∧ (b : Int) ∈ blks (x.n j)) ∨ ∃ q, q < k ∧ (blks (x.n i))[q]? = some (b : Int))) (rn m i).nb ⟨0, had, rfl, by omega, rfl, hhad.trans ⟨.inl, fun h => h.resolve_right (fun ⟨q, h, _⟩ => absurd h (Nat.not_lt_zero _))⟩⟩ ?_
  clear H
  rintro f vs hv3 w ⟨k, had', rfl, hk, rfl, hhad'⟩ H
  by_cases hklt : k < (rn m i).nb
  rotate_left
  · obtain rfl : k = (rn m i).nb := by omega
    repeat' (first | (refine K.iaA (i := i) rfl rfl rfl rfl rfl hlt ?_) | (refine X.lenL ?_) | (refine X.lv H ?_) | (refine X.lw H ?_) | (refine X.lp H ?_) | (refine X.stR H ?_; clear H; (try clear w); intro w H) | (refine X.eqL ?_ ?_ <;> intro hc <;> first | (exfalso; first | exact absurd hc (by assumption) | exact absurd (by assumption) hc) | skip) | refine Z H ?_ | (refine Zc ?_ ?_ <;> intro hc <;> first | (exfalso; omega) | skip) | (refine Y ?_; try change C _ _ _ _ _ _) | (refine Zs H ?_; clear H; (try clear w); intro w H) | (refine Zn H ?_; clear H; (try clear w); intro _ w H) | (refine Ze H ?_; clear H; (try clear w); intro gv w H))
    refine ⟨by (repeat (first | exact Agr.refl | exact Agr.hav | refine Agr.upd rfl ?_ | refine Agr.in rfl ?_)), 8 - (i + 1), by omega, ⟨i + 1, had', rfl, by omega, rfl, hhad'.trans ⟨fun h => ?_, fun ⟨j, h1, h2⟩ => ?_⟩⟩, H⟩
    · rcases h with ⟨j, h1, h2⟩ | ⟨q, _, h2⟩
      · exact ⟨j, by omega, h2⟩
      · exact ⟨i, by omega, List.mem_of_getElem? h2⟩
    · by_cases e : j = i
      · rw [e] at h2
        obtain ⟨q, hq, h3⟩ := List.getElem_of_mem h2
        exact .inr ⟨q, by rw [hbl]; exact hq, by rw [List.getElem?_eq_getElem hq, h3]⟩
      · exact .inl ⟨j, by omega, h2⟩
  obtain ⟨gb, o, c', hv', _, _, hp⟩ := posS hbs (by omega) (by decide)
  have hkb : k < (blks (x.n i)).length := by omega
  have hpn : Pin s gb (o + k * 1) (.int .i64 ((blks (x.n i))[k])) := by
    rw [Nat.mul_one]
    exact hp k _ (by rw [List.getElem?_map, List.getElem?_eq_getElem hkb]; rfl)
  have hgk : (blks (x.n i))[k]? = some ((blks (x.n i))[k]) := List.getElem?_eq_getElem hkb
  have hstep : ∀ hd : Bool, (hd = true ↔ had' = true ∨ (blks (x.n i))[k] = (b : Int)) → (hd = true ↔ (∃ j, j < i ∧ (b : Int) ∈ blks (x.n j)) ∨ ∃ q, q < k + 1 ∧ (blks (x.n i))[q]? = some (b : Int)) := fun hd h => by
    rw [h, hhad']
    constructor
    · rintro ((h | ⟨q, h1, h2⟩) | h)
      · exact .inl h
      · exact .inr ⟨q, by omega, h2⟩
      · exact .inr ⟨k, by omega, by rw [hgk, h]⟩
    · rintro (h | ⟨q, h1, h2⟩)
      · exact .inl (.inl h)
      · by_cases e : q = k
        · subst e
          rw [hgk] at h2
          injection h2 with h2
          exact .inr h2
        · exact .inl (.inr ⟨q, by omega, h2⟩)
  generalize (blks (x.n i))[k] = bk at hpn hstep
  have hsa : (rn m i).sa = some ⟨gb, o, none⟩ := by injection hv'
  replace c3 : (rcells m)[0 + i * 4 + 3]? = some (.slice (some ⟨gb, o, none⟩) (rn m i).nb (rn m i).sc) := by rw [← hsa]; exact c3
  cases had'
  · by_cases hbk : bk = (b : Int)
    · repeat' (first | (refine K.iaA (i := i) rfl rfl rfl rfl rfl hlt ?_) | (refine X.lenL ?_) | (refine X.lv H ?_) | (refine X.lw H ?_) | (refine X.lp H ?_) | (refine X.stR H ?_; clear H; (try clear w); intro w H) | (refine X.eqL ?_ ?_ <;> intro hc <;> first | (exfalso; first | exact absurd hc (by assumption) | exact absurd (by assumption) hc) | skip) | refine Z H ?_ | (refine Zc ?_ ?_ <;> intro hc <;> first | (exfalso; omega) | skip) | (refine Y ?_; try change C _ _ _ _ _ _) | (refine Zs H ?_; clear H; (try clear w); intro w H) | (refine Zn H ?_; clear H; (try clear w); intro _ w H) | (refine Ze H ?_; clear H; (try clear w); intro gv w H))
      exact ⟨by (repeat (first | exact Agr.refl | exact Agr.hav | refine Agr.upd rfl ?_ | refine Agr.in rfl ?_)), (rn m i).nb - (k + 1), by omega, ⟨k + 1, true, rfl, by omega, rfl, hstep true ⟨fun _ => .inr hbk, fun _ => rfl⟩⟩, H⟩
    · repeat' (first | (refine K.iaA (i := i) rfl rfl rfl rfl rfl hlt ?_) | (refine X.lenL ?_) | (refine X.lv H ?_) | (refine X.lw H ?_) | (refine X.lp H ?_) | (refine X.stR H ?_; clear H; (try clear w); intro w H) | (refine X.eqL ?_ ?_ <;> intro hc <;> first | (exfalso; first | exact absurd hc (by assumption) | exact absurd (by assumption) hc) | skip) | refine Z H ?_ | (refine Zc ?_ ?_ <;> intro hc <;> first | (exfalso; omega) | skip) | (refine Y ?_; try change C _ _ _ _ _ _) | (refine Zs H ?_; clear H; (try clear w); intro w H) | (refine Zn H ?_; clear H; (try clear w); intro _ w H) | (refine Ze H ?_; clear H; (try clear w); intro gv w H))
      exact ⟨by (repeat (first | exact Agr.refl | exact Agr.hav | refine Agr.upd rfl ?_ | refine Agr.in rfl ?_)), (rn m i).nb - (k + 1), by omega, ⟨k + 1, false, rfl, by omega, rfl, hstep false ⟨fun h => (by cases h), fun h => h.elim (fun h => (by cases h)) (fun h => absurd h hbk)⟩⟩, H⟩
  · repeat' (first | (refine K.iaA (i := i) rfl rfl rfl rfl rfl hlt ?_) | (refine X.lenL ?_) | (refine X.lv H ?_) | (refine X.lw H ?_) | (refine X.lp H ?_) | (refine X.stR H ?_; clear H; (try clear w); intro w H) | (refine X.eqL ?_ ?_ <;> intro hc <;> first | (exfalso; first | exact absurd hc (by assumption) | exact absurd (by assumption) hc) | skip) | refine Z H ?_ | (refine Zc ?_ ?_ <;> intro hc <;> first | (exfalso; omega) | skip) | (refine Y ?_; try change C _ _ _ _ _ _) | (refine Zs H ?_; clear H; (try clear w); intro w H) | (refine Zn H ?_; clear H; (try clear w); intro _ w H) | (refine Ze H ?_; clear H; (try clear w); intro gv w H))
    exact ⟨by (repeat (first | exact Agr.refl | exact Agr.hav | refine Agr.upd rfl ?_ | refine Agr.in rfl ?_)), (rn m i).nb - (k + 1), by omega, ⟨k + 1, true, rfl, by omega, rfl, hstep true ⟨fun _ => .inl rfl, fun _ => rfl⟩⟩, H⟩
end
def finT (u : TR) (f : Nat) (size : Int) : TR := u.set f { u.n f with size := size }
structure Stage (t : TR) (f : Nat) (size qu : Int) (x : TR) : Prop where
  ok : x.Ok
  oth : ∀ j, j ≠ f → x.n j = t.n j
  c : ((x.n f).b0 = 0 ∧ (x.n f).b1 = 0 ∧ growM t f size qu = growM x f size qu) ∨ ((x.n f).b0 ≠ 0 ∧ (x.n f).b1 = 0 ∧ growM t f size qu = (growJ x f size qu 1).map fun v => finT v f size) ∨ ((x.n f).b0 ≠ 0 ∧ (x.n f).b1 ≠ 0 ∧ growM t f size qu = some (finT x f size))
theorem growM_bind {t : TR} {f : Nat} {size qu : Int} : growM t f size qu = (growJ t f size qu 0).bind fun u => (growJ u f size qu 1).map fun v => finT v f size := rfl
theorem growJ_has {t : TR} {f j : Nat} {size qu : Int} (h : size ≤ j * 40 ∨ (t.n f).blk j ≠ 0) : growJ t f size qu j = some t := by unfold growJ; rw [if_pos h]
theorem growJ_no {t : TR} {f j : Nat} {size qu : Int} (h1 : (j : Int) * 40 < size) (h2 : (t.n f).blk j = 0) (h3 : unusedM t = 0 ∨ qu ≤ usedN t) : growJ t f size qu j = none := by
  unfold growJ
  rw [if_neg (fun h => h.elim (fun h => by omega) (fun h => h h2)), if_pos h3]
theorem growJ_new {t : TR} {f j : Nat} {size qu : Int} (h1 : (j : Int) * 40 < size) (h2 : (t.n f).blk j = 0) (h3 : ¬ (unusedM t = 0 ∨ qu ≤ usedN t)) : growJ t f size qu j = some (t.set f ((t.n f).setBlk j (unusedM t))) := by
  unfold growJ
  rw [if_neg (fun h => h.elim (fun h => by omega) (fun h => h h2)), if_neg h3]
theorem stage_first {t : TR} (h : WF t) {f : Nat} (hf : f < 8) (hk : (t.n f).kind = 2) {size qu : Int} : Stage t f size qu t := by
  have hf1 := file_pos h.root hk
  have hsh := ((h.nd f hf1 hf).resolve_left (kind_nz (by omega))).sh
  unfold Shaped at hsh
  refine ⟨h.ok, fun _ _ => rfl, ?_⟩
  by_cases h0 : (t.n f).b0 = 0
  · by_cases h1 : (t.n f).b1 = 0
    · exact .inl ⟨h0, h1, rfl⟩
    · omega
  · by_cases h1 : (t.n f).b1 = 0
    · refine .inr (.inl ⟨h0, h1, ?_⟩)
      rw [growM_bind, growJ_has (j := 0) (.inr (show (t.n f).blk 0 ≠ 0 from h0))]
      rfl
    · refine .inr (.inr ⟨h0, h1, ?_⟩)
      rw [growM_bind, growJ_has (j := 0) (.inr (show (t.n f).blk 0 ≠ 0 from h0))]
      show (growJ t f size qu 1).map _ = _
      rw [growJ_has (j := 1) (.inr (show (t.n f).blk 1 ≠ 0 from h1))]
      rfl
theorem blks_0 {n : Nd} (h0 : n.b0 = 0) (h1 : n.b1 = 0) : blks n = [] := by unfold blks; rw [if_neg (by simpa using h0), if_neg (by simpa using h1)]; rfl
theorem blks_1 {n : Nd} (h0 : n.b0 ≠ 0) (h1 : n.b1 = 0) : blks n = [n.b0] := by unfold blks; rw [if_pos h0, if_neg (by simpa using h1)]; rfl
theorem blks_2 {n : Nd} (h0 : n.b0 ≠ 0) (h1 : n.b1 ≠ 0) : blks n = [n.b0, n.b1] := by unfold blks; rw [if_pos h0, if_pos h1]; rfl
theorem Stage.stop {t x : TR} {f : Nat} {size qu : Int} (h : Stage t f size qu x) (h0 : 0 < size) (hs : size ≤ 40 * ((blks (x.n f)).length : Int)) : growM t f size qu = some (finT x f size) := by
  rcases h.c with ⟨a, b, c⟩ | ⟨a, b, c⟩ | ⟨a, b, c⟩
  · rw [blks_0 a b] at hs
    simp at hs
    omega
  · rw [blks_1 a b] at hs
    rw [c, growJ_has (j := 1) (.inl (by simp at hs; omega))]
    rfl
  · exact c
theorem Stage.fail {t x : TR} {f : Nat} {size qu : Int} (h : Stage t f size qu x) (h80 : size ≤ 80) (hs : 40 * ((blks (x.n f)).length : Int) < size) (hb : unusedM x = 0 ∨ qu ≤ usedN x) : growM t f size qu = none := by
  rcases h.c with ⟨a, b, c⟩ | ⟨a, b, c⟩ | ⟨a, b, c⟩
  · rw [blks_0 a b] at hs
    rw [c, growM_bind, growJ_no (j := 0) (by omega) (show (x.n f).blk 0 = 0 from a) hb]
    rfl
  · rw [blks_1 a b] at hs
    rw [c, growJ_no (j := 1) (by simp at hs; omega) (show (x.n f).blk 1 = 0 from b) hb]
    rfl
  · rw [blks_2 a b] at hs
    simp at hs
    omega
theorem Stage.next {t x : TR} {f : Nat} {size qu : Int} (h : Stage t f size qu x) (hf : f < 8) (h80 : size ≤ 80) (hs : 40 * ((blks (x.n f)).length : Int) < size) (hb : ¬ (unusedM x = 0 ∨ qu ≤ usedN x)) :
    Stage t f size qu (x.set f ((x.n f).setBlk (blks (x.n f)).length (unusedM x))) ∧ blks ((x.set f ((x.n f).setBlk (blks (x.n f)).length (unusedM x))).n f) = blks (x.n f) ++ [(unusedM x : Int)] := by
  have hn : ∀ y, (x.set f y).n f = y := fun y => by rw [TR.n_set h.ok hf, if_pos rfl]
  have ho : ∀ y, (∀ j, j ≠ f → (x.set f y).n j = t.n j) := fun y j hj => by rw [TR.n_set h.ok hf, if_neg (fun e => hj e.symm), h.oth j hj]
  have hu : (unusedM x : Int) ≠ 0 := fun e => hb (.inl (by omega))
  rcases h.c with ⟨a, b, c⟩ | ⟨a, b, c⟩ | ⟨a, b, c⟩
  · have hl : (blks (x.n f)).length = 0 := by rw [blks_0 a b]; rfl
    rw [hl] at hs ⊢
    have e : (x.n f).setBlk 0 (unusedM x) = { x.n f with b0 := (unusedM x : Int) } := rfl
    refine ⟨⟨TR.ok_set h.ok _ _, ho _, .inr (.inl ⟨by rw [hn, e]; exact hu, by rw [hn, e]; exact b, ?_⟩)⟩, ?_⟩
    · rw [c, growM_bind, growJ_new (j := 0) (by omega) (show (x.n f).blk 0 = 0 from a) hb]
      rfl
    · rw [hn, e, blks_1 (n := { x.n f with b0 := (unusedM x : Int) }) hu b, blks_0 a b]
      rfl
  · have hl : (blks (x.n f)).length = 1 := by rw [blks_1 a b]; rfl
    rw [hl] at hs ⊢
    have e : (x.n f).setBlk 1 (unusedM x) = { x.n f with b1 := (unusedM x : Int) } := rfl
    refine ⟨⟨TR.ok_set h.ok _ _, ho _, .inr (.inr ⟨by rw [hn, e]; exact a, by rw [hn, e]; exact hu, ?_⟩)⟩, ?_⟩
    · rw [c, growJ_new (j := 1) (by omega) (show (x.n f).blk 1 = 0 from b) hb]
      rfl
    · rw [hn, e, blks_2 (n := { x.n f with b1 := (unusedM x : Int) }) a hu, blks_1 a b]
      rfl
  · rw [blks_2 a b] at hs
    simp at hs
    omega
end Go.Proofs.Ytlchnabnhimlcaa
set_option linter.unusedSimpArgs false
set_option linter.unusedVariables false
namespace Go.Proofs.Ytlchnabnhimlcaa
open Go Go.RowKit Go.Own
section
variable {w : World} {s : Ro} {R : List Asn} {p : Str} {m : List RN}
end
end Go.Proofs.Ytlchnabnhimlcaa
