/- nacelleref17, walked weakly: Under (exact), New, Make, Remove, Cut. nacelleref17, walked weakly: Make, Remove. -/
import Derived.Test.YtlchnabnhimlcaaApVb
set_option linter.unusedSimpArgs false
set_option linter.unusedVariables false
namespace Go.Proofs.Ytlchnabnhimlcaa
open Go Go.RowKit Go.Own
instance {p d : Str} : Decidable (underP p d) := by unfold underP; infer_instance
/-- the document's tree in memory: shape, sizes, blocks that can be read -/
structure RB (s : Ro) (x : RN) (M : Nat) : Prop where
  dl : x.data.length ≤ 80
  pl : x.path.length ≤ M
  few : x.nb ≤ 1000
  bs : ∃ bs : List Int, bs.length = x.nb ∧ SlS s (.slice x.sa x.nb x.sc) 1 x.nb (bs.map fun b => .int .i64 b)
structure ROk (s : Ro) (m : List RN) (M : Nat) : Prop where
  l8 : m.length = 8
  nd : ∀ x ∈ m, RB s x M
theorem RB.mono {s s' : Ro} {x : RN} {M M' : Nat} (h : RB s x M) (hs : s.Le s') (hM : M ≤ M') : RB s' x M' := ⟨h.dl, by have := h.pl; omega, h.few, by
  obtain ⟨bs, h1, h2⟩ := h.bs
  exact ⟨bs, h1, h2.mono hs⟩⟩
theorem ROk.mono {s s' : Ro} {m : List RN} {M M' : Nat} (h : ROk s m M) (hs : s.Le s') (hM : M ≤ M') : ROk s' m M' := ⟨h.l8, fun x hx => (h.nd x hx).mono hs hM⟩
theorem RB.nil {s : Ro} {k : Int} {p : Str} {M : Nat} (hp : p.length ≤ M) : RB s ⟨k, p, [], none, 0, 0⟩ M := ⟨by simp, hp, by simp, [], rfl, SlS.nil s 1⟩
theorem ROk.set {s : Ro} {m : List RN} {M : Nat} (h : ROk s m M) (i : Nat) {x : RN} (hx : RB s x M) : ROk s (m.set i x) M := ⟨by rw [List.length_set, h.l8], fun y hy => by
  rcases List.mem_or_eq_of_mem_set hy with hy | rfl
  · exact h.nd y hy
  · exact hx⟩
theorem ROk.at {s : Ro} {m : List RN} {M : Nat} (h : ROk s m M) {i : Nat} (hi : i < 8) : RB s (rn m i) M := by
  rw [rn_get h.l8 hi]
  exact h.nd _ (List.getElem_mem _)
theorem rcells_all {m : List RN} : (rcells m).all Value.oneCell' = true := List.all_eq_true.2 fun v hv => flat_mem (fun x _ v hv => by
  simp only [RN.cells, List.mem_cons, List.not_mem_nil, or_false] at hv
  rcases hv with rfl | rfl | rfl | rfl <;> rfl) v hv
instance (priority := high) zeroR : ZeroC Try.prog 39 (rcells (List.replicate 8 RN.zero)) := ⟨⟨.agg (rcells (List.replicate 8 RN.zero)).toArray, by kernel_rfl, by kernel_rfl⟩⟩
section
variable {n : Nat} {ops : Array Oper} {Q : Post} {rest : List Oper} {e : Env} {w : World} {s : Ro} {rs R : List Asn} {tt : Nat} {pp : String} {af : Array Edge} {g : Option (Nat × Bool)} {d : Nat}
theorem X.stRc {ty : TypeId} {x y : Operand} [T : OneC Try.prog ty] {b off : Nat} {tp : TypeId} {t : List RN} {f : List Value → List Asn} {v : Value} (i k : Nat) (z : RN) (ht : t.length = 8) (hi : i < 8) (hk : k < 4) (hz : z.cells = (rn t i).cells.set k v) (H : Holds s w rs) (h : ∀ w', Holds s w' (f (rcells (t.set i z))) → L Try.prog n ops Q rest e w') (ho : off = 0 + i * 4 + k := by rfl) (hw : wg n ops g e = true := by rfl) (hx : ev e x = .pointer (some ⟨b, off, none⟩) := by rfl) (V : PutV rs b tp (rcells t) f := by infer_instance) (hy : ev e y = v := by rfl) (h1 : v.oneCell' = true := by rfl) : L Try.prog n ops Q (⟨none, .store ty x y, tt, pp, af, g⟩ :: rest) e w := by
  obtain ⟨j, hj, hf⟩ := V.ix
  subst ho
  exact K.store j H hw hx hj hy h1 (by rw [Nat.blt_eq, rcells_len ht]; omega) (fun w' H' => h w' (by
    have := flatS_set (f := RN.cells) t (fun x _ => rfl) i k v z (by omega) hk (by rw [hz, rn_get ht hi])
    rw [hf, Nat.zero_add, rcells, this] at H'
    exact H'))
theorem X.stR {x y : Operand} {b : Nat} {ty : TypeId} {u v : List RN} {f : List Value → List Asn} (H : Holds s w rs) (h : ∀ w', Holds s w' (f (rcells v)) → L Try.prog n ops Q rest e w') (hw : wg n ops g e = true := by rfl) (hx : ev e x = .pointer (some ⟨b, 0, none⟩) := by rfl) (V : PutV rs b ty (rcells u) f := by infer_instance) (hy : ev e y = .agg (rcells v).toArray := by rfl) (hu : u.length = 8 := by assumption) (hv : v.length = 8 := by assumption) : L Try.prog n ops Q (⟨none, .store 39 x y, tt, pp, af, g⟩ :: rest) e w :=
  X.sta (k := 32) H h hw hx V hy rcells_all (rcells_len hv) (rcells_len hu)
theorem X.stRN {ty : TypeId} {x y : Operand} {k0 : Nat} [T : RowC Try.prog ty k0] {b off : Nat} {tp : TypeId} {t : List RN} {f : List Value → List Asn} (ys : List Value) (i k : Nat) (z : RN) (ht : t.length = 8) (hi : i < 8) (hk : k + ys.length ≤ 4) (hz : z.cells = putL (rn t i).cells k ys) (hn : ys.length = k0) (h1 : ys.all Value.oneCell' = true) (H : Holds s w rs) (h : ∀ w', Holds s w' (f (rcells (t.set i z))) → L Try.prog n ops Q rest e w') (ho : off = 0 + i * 4 + k := by rfl) (hw : wg n ops g e = true := by rfl) (hx : ev e x = .pointer (some ⟨b, off, none⟩) := by rfl) (V : PutV rs b tp (rcells t) f := by infer_instance) (hy : ev e y = .agg ys.toArray := by rfl) : L Try.prog n ops Q (⟨none, .store ty x y, tt, pp, af, g⟩ :: rest) e w := by
  subst ho
  refine X.stp (ys := ys) (rcells (t.set i z)) H h hw hx V hy ?_ h1 hn (by rw [Nat.ble_eq, rcells_len ht]; omega)
  have := flatS_put (f := RN.cells) t (sz := 4) (fun x _ => rfl) i k ys z (by omega) hk (by rw [hz, rn_get ht hi])
  rw [Nat.zero_add, rcells, rcells, ← this, putL, hn]
variable {p q : Str} {m : List RN}
set_option maxRecDepth 100000 in
set_option maxHeartbeats 1000000 in
theorem Under_w (H : Holds s w R) (hp : p.length ≤ 140737488355328) (hq : q.length ≤ 140737488355328) : Calls Try.prog 11 #[.string ⟨p.toArray⟩, .string ⟨q.toArray⟩] w fun e w' => e = .returned (.bool (decide (underP p q))) ∧ Holds s w' R := by
  refine enter Try.func11 rfl Try.ntmps11 rfl ?_
  by_cases h1 : q.length < p.length
  rotate_left
  · repeat' (first | (refine X.lenL ?_) | (refine X.lv H ?_) | (refine X.lw H ?_) | (refine X.lp H ?_) | (refine X.stR H ?_; clear H; (try clear w); intro w H) | (refine X.eqL ?_ ?_ <;> intro hc <;> first | (exfalso; first | exact absurd hc (by assumption) | exact absurd (by assumption) hc) | skip) | refine Z H ?_ | (refine Zc ?_ ?_ <;> intro hc <;> first | (exfalso; omega) | skip) | (refine Y ?_; try change C _ _ _ _ _ _) | (refine Zs H ?_; clear H; (try clear w); intro w H) | (refine Zn H ?_; clear H; (try clear w); intro _ w H) | (refine Ze H ?_; clear H; (try clear w); intro gv w H))
    exact ⟨_, resT rfl, by rw [decide_eq_false (fun h => h1 h.1)]; rfl, H⟩
  by_cases h2 : p.take q.length = q
  rotate_left
  · repeat' (first | (refine X.upto (l := p) q.length ?_ rfl (by omega)) | (refine X.eqL (a := p.take q.length) (b := q) ?_ ?_ <;> intro hc <;> first | (exfalso; exact absurd hc h2) | skip) | (refine X.lenL ?_) | (refine X.lv H ?_) | (refine X.lw H ?_) | (refine X.lp H ?_) | (refine X.stR H ?_; clear H; (try clear w); intro w H) | (refine X.eqL ?_ ?_ <;> intro hc <;> first | (exfalso; first | exact absurd hc (by assumption) | exact absurd (by assumption) hc) | skip) | refine Z H ?_ | (refine Zc ?_ ?_ <;> intro hc <;> first | (exfalso; omega) | skip) | (refine Y ?_; try change C _ _ _ _ _ _) | (refine Zs H ?_; clear H; (try clear w); intro w H) | (refine Zn H ?_; clear H; (try clear w); intro _ w H) | (refine Ze H ?_; clear H; (try clear w); intro gv w H))
    exact ⟨_, resT rfl, by rw [decide_eq_false (fun h => h2 h.2.1)]; rfl, H⟩
  by_cases h3 : (((p[q.length]?.getD 0).toNat : Nat) : Int) = 47
  · have h3' : p[q.length]? = some 47 := by
      rw [List.getElem?_eq_getElem h1] at h3 ⊢
      simp at h3
      congr 1
      exact UInt8.toNat_inj.1 (by rw [show (47 : UInt8).toNat = 47 from rfl]; omega)
    repeat' (first | (refine X.upto (l := p) q.length ?_ rfl (by omega)) | (refine X.eqL (a := p.take q.length) (b := q) ?_ ?_ <;> intro hc <;> first | (exfalso; exact absurd h2 hc) | skip) | (refine X.sidx (l := p) q.length ?_) | (refine X.lenL ?_) | (refine X.lv H ?_) | (refine X.lw H ?_) | (refine X.lp H ?_) | (refine X.stR H ?_; clear H; (try clear w); intro w H) | (refine X.eqL ?_ ?_ <;> intro hc <;> first | (exfalso; first | exact absurd hc (by assumption) | exact absurd (by assumption) hc) | skip) | refine Z H ?_ | (refine Zc ?_ ?_ <;> intro hc <;> first | (exfalso; omega) | skip) | (refine Y ?_; try change C _ _ _ _ _ _) | (refine Zs H ?_; clear H; (try clear w); intro w H) | (refine Zn H ?_; clear H; (try clear w); intro _ w H) | (refine Ze H ?_; clear H; (try clear w); intro gv w H))
    exact ⟨_, resT rfl, by rw [decide_eq_true (show underP p q from ⟨h1, h2, h3'⟩)]; rfl, H⟩
  · repeat' (first | (refine X.upto (l := p) q.length ?_ rfl (by omega)) | (refine X.eqL (a := p.take q.length) (b := q) ?_ ?_ <;> intro hc <;> first | (exfalso; exact absurd h2 hc) | skip) | (refine X.sidx (l := p) q.length ?_) | (refine X.lenL ?_) | (refine X.lv H ?_) | (refine X.lw H ?_) | (refine X.lp H ?_) | (refine X.stR H ?_; clear H; (try clear w); intro w H) | (refine X.eqL ?_ ?_ <;> intro hc <;> first | (exfalso; first | exact absurd hc (by assumption) | exact absurd (by assumption) hc) | skip) | refine Z H ?_ | (refine Zc ?_ ?_ <;> intro hc <;> first | (exfalso; omega) | skip) | (refine Y ?_; try change C _ _ _ _ _ _) | (refine Zs H ?_; clear H; (try clear w); intro w H) | (refine Zn H ?_; clear H; (try clear w); intro _ w H) | (refine Ze H ?_; clear H; (try clear w); intro gv w H))
    exact ⟨_, resT rfl, by rw [decide_eq_false (fun h => h3 (by rw [h.2.2]; rfl))]; rfl, H⟩
set_option maxRecDepth 100000 in
set_option maxHeartbeats 1000000 in
theorem Cut_w {M : Nat} (H : Holds s w R) (hm : ROk s m M) (hl : p.length ≤ 140737488355328) : Calls Try.prog 36 #[.agg (rcells m).toArray, .string ⟨p.toArray⟩] w fun e w' => ∃ (m' : List RN) (er : Int), ROk s m' M ∧ e = .returned (.tuple #[.agg (rcells m').toArray, .int .i64 er]) ∧ Holds s w' R := by
  have hm8 := hm.l8
  have hm32 := rcells_len hm8
  have hz8 : (List.replicate 8 RN.zero).length = 8 := rfl
  refine enter Try.func36 rfl Try.ntmps36 rfl ?_
  repeat' (first | (refine X.lenL ?_) | (refine X.lv H ?_) | (refine X.lw H ?_) | (refine X.lp H ?_) | (refine X.stR H ?_; clear H; (try clear w); intro w H) | (refine X.eqL ?_ ?_ <;> intro hc <;> first | (exfalso; first | exact absurd hc (by assumption) | exact absurd (by assumption) hc) | skip) | refine Z H ?_ | (refine Zc ?_ ?_ <;> intro hc <;> first | (exfalso; omega) | skip) | (refine Y ?_; try change C _ _ _ _ _ _) | (refine Zs H ?_; clear H; (try clear w); intro w H) | (refine Zn H ?_; clear H; (try clear w); intro _ w H) | (refine Ze H ?_; clear H; (try clear w); intro gv w H))
  (refine X.call (File_w (p := p) H hm8 hl) ?_; (try clear H); rintro _ w ⟨k, er, hk, rfl, H⟩; refine ⟨_, rfl, ?_⟩)
  by_cases her : er = 0
  rotate_left
  · repeat' (first | (refine X.lenL ?_) | (refine X.lv H ?_) | (refine X.lw H ?_) | (refine X.lp H ?_) | (refine X.stR H ?_; clear H; (try clear w); intro w H) | (refine X.eqL ?_ ?_ <;> intro hc <;> first | (exfalso; first | exact absurd hc (by assumption) | exact absurd (by assumption) hc) | skip) | refine Z H ?_ | (refine Zc ?_ ?_ <;> intro hc <;> first | (exfalso; omega) | skip) | (refine Y ?_; try change C _ _ _ _ _ _) | (refine Zs H ?_; clear H; (try clear w); intro w H) | (refine Zn H ?_; clear H; (try clear w); intro _ w H) | (refine Ze H ?_; clear H; (try clear w); intro gv w H))
    exact ⟨_, resVT (cs := rcells m) H rfl rfl inferInstance hm32, m, er, hm, rfl, H.tail.tail⟩
  have hx := hm.at hk
  have hb1 : RB s { rn m k with data := [] } M := ⟨by simp, hx.pl, hx.few, hx.bs⟩
  have hs1 := hm.set k hb1
  have hm1 := hs1.l8
  have hs2 := hs1.set k (RB.nil (k := (rn m k).kind) hx.pl)
  have hm2 := hs2.l8
  have hn1 : rn (m.set k { rn m k with data := [] }) k = { rn m k with data := [] } := by
    unfold rn
    rw [List.getElem?_set_self (by omega)]
    rfl
  repeat' (first | (refine K.iaA (i := k) rfl rfl rfl rfl rfl hk ?_) | (refine X.stRc k 2 { rn m k with data := [] } hm8 hk (by decide) rfl H ?_; clear H; (try clear w); intro w H) | (refine X.stRc k 3 ⟨(rn m k).kind, (rn m k).path, [], none, 0, 0⟩ hm1 hk (by decide) (by rw [hn1]; rfl) H ?_; clear H; (try clear w); intro w H) | (refine X.lw H ?_ (hn := rcells_len hm2)) | (refine X.lenL ?_) | (refine X.lv H ?_) | (refine X.lw H ?_) | (refine X.lp H ?_) | (refine X.stR H ?_; clear H; (try clear w); intro w H) | (refine X.eqL ?_ ?_ <;> intro hc <;> first | (exfalso; first | exact absurd hc (by assumption) | exact absurd (by assumption) hc) | skip) | refine Z H ?_ | (refine Zc ?_ ?_ <;> intro hc <;> first | (exfalso; omega) | skip) | (refine Y ?_; try change C _ _ _ _ _ _) | (refine Zs H ?_; clear H; (try clear w); intro w H) | (refine Zn H ?_; clear H; (try clear w); intro _ w H) | (refine Ze H ?_; clear H; (try clear w); intro gv w H))
  exact ⟨_, resVT (cs := rcells ((m.set k { rn m k with data := [] }).set k ⟨(rn m k).kind, (rn m k).path, [], none, 0, 0⟩)) H rfl rfl inferInstance (rcells_len hm2), _, 0, hs2, by rw [her]; rfl, H.tail.tail⟩
end
end Go.Proofs.Ytlchnabnhimlcaa
set_option linter.unusedSimpArgs false
set_option linter.unusedVariables false
namespace Go.Proofs.Ytlchnabnhimlcaa
open Go Go.RowKit Go.Own
theorem build_rn0 (w : World) : (Instr.build 37 ([] : List (Nat × Value)).toArray).run Try.prog w = .ok (.agg (RN.cells RN.zero).toArray) w := by kernel_rfl
theorem build_rn2 (k : Int) (p : Str) (w : World) : (Instr.build 37 ([(0, .int .i64 k), (1, .string ⟨p.toArray⟩)] : List (Nat × Value)).toArray).run Try.prog w = .ok (.agg (RN.cells ⟨k, p, [], none, 0, 0⟩).toArray) w := by kernel_rfl
section
variable {w : World} {s : Ro} {R : List Asn} {p q : Str} {m : List RN}
set_option maxRecDepth 100000 in
set_option maxHeartbeats 1000000 in
theorem Make_w {M : Nat} {k : Int} (H : Holds s w R) (hm : ROk s m M) (hl : p.length ≤ 140737488355328) (hM : 72 ≤ M) : Calls Try.prog 31 #[.agg (rcells m).toArray, .string ⟨p.toArray⟩, .int .i64 k] w fun e w' => ∃ (m' : List RN) (er : Int), ROk s m' M ∧ e = .returned (.tuple #[.agg (rcells m').toArray, .int .i64 er]) ∧ Holds s w' R := by
  have hm8 := hm.l8
  have hm32 := rcells_len hm8
  have hz8 : (List.replicate 8 RN.zero).length = 8 := rfl
  refine enter Try.func31 rfl Try.ntmps31 rfl ?_
  repeat' (first | (refine X.lenL ?_) | (refine X.lv H ?_) | (refine X.lw H ?_) | (refine X.lp H ?_) | (refine X.stR H ?_; clear H; (try clear w); intro w H) | (refine X.eqL ?_ ?_ <;> intro hc <;> first | (exfalso; first | exact absurd hc (by assumption) | exact absurd (by assumption) hc) | skip) | ((fail_if_success (with_reducible show C _ _ _ (Code.seq (Code.seq (Code.region 1 _ _) _) _) _ _)); refine Z H ?_) | (refine Zc ?_ ?_ <;> intro hc <;> first | (exfalso; omega) | skip) | (refine Y ?_; try change C _ _ _ _ _ _) | (refine Zs H ?_; clear H; (try clear w); intro w H) | (refine Zn H ?_; clear H; (try clear w); intro _ w H) | (refine Ze H ?_; clear H; (try clear w); intro gv w H))
  refine C.cutH H [7, 11, 12, 13, 14, 15, 16, 17, 18, 19, 20, 21, 22, 23, 24, 25, 26] [] rfl (fun vs => p[0]? = some 47 ∧ p.length ≤ 72) ?_ ?_
  · repeat' (first | (refine X.lenL ?_) | (refine X.lv H ?_) | (refine X.lw H ?_) | (refine X.lp H ?_) | (refine X.stR H ?_; clear H; (try clear w); intro w H) | (refine X.eqL ?_ ?_ <;> intro hc <;> first | (exfalso; first | exact absurd hc (by assumption) | exact absurd (by assumption) hc) | skip) | refine Z H ?_ | (refine Zc ?_ ?_ <;> intro hc <;> first | (exfalso; omega) | skip) | (refine Y ?_; try change C _ _ _ _ _ _) | (refine Zs H ?_; clear H; (try clear w); intro w H) | (refine Zn H ?_; clear H; (try clear w); intro _ w H) | (refine Ze H ?_; clear H; (try clear w); intro gv w H))
    (refine X.call (IsPath_w (p := p) H hl) ?_; (try clear H); rintro _ w ⟨b, rfl, hb, H⟩; refine ⟨_, rfl, ?_⟩)
    cases b
    · repeat' (first | (refine X.lenL ?_) | (refine X.lv H ?_) | (refine X.lw H ?_) | (refine X.lp H ?_) | (refine X.stR H ?_; clear H; (try clear w); intro w H) | (refine X.eqL ?_ ?_ <;> intro hc <;> first | (exfalso; first | exact absurd hc (by assumption) | exact absurd (by assumption) hc) | skip) | refine Z H ?_ | (refine Zc ?_ ?_ <;> intro hc <;> first | (exfalso; omega) | skip) | (refine Y ?_; try change C _ _ _ _ _ _) | (refine Zs H ?_; clear H; (try clear w); intro w H) | (refine Zn H ?_; clear H; (try clear w); intro _ w H) | (refine Ze H ?_; clear H; (try clear w); intro gv w H))
      exact ⟨_, resVT (cs := rcells m) H rfl rfl inferInstance hm32, m, 1, hm, rfl, H.tail.tail⟩
    · by_cases hroot : p = [47]
      · repeat' (first | (refine X.eqL (a := p) (b := [47]) ?_ ?_ <;> intro hc <;> first | (exfalso; exact absurd hroot hc) | skip) | (refine X.lenL ?_) | (refine X.lv H ?_) | (refine X.lw H ?_) | (refine X.lp H ?_) | (refine X.stR H ?_; clear H; (try clear w); intro w H) | (refine X.eqL ?_ ?_ <;> intro hc <;> first | (exfalso; first | exact absurd hc (by assumption) | exact absurd (by assumption) hc) | skip) | refine Z H ?_ | (refine Zc ?_ ?_ <;> intro hc <;> first | (exfalso; omega) | skip) | (refine Y ?_; try change C _ _ _ _ _ _) | (refine Zs H ?_; clear H; (try clear w); intro w H) | (refine Zn H ?_; clear H; (try clear w); intro _ w H) | (refine Ze H ?_; clear H; (try clear w); intro gv w H))
        exact ⟨_, resVT (cs := rcells m) H rfl rfl inferInstance hm32, m, 1, hm, rfl, H.tail.tail⟩
      · by_cases hk1 : k < 1
        · repeat' (first | (refine X.eqL (a := p) (b := [47]) ?_ ?_ <;> intro hc <;> first | (exfalso; exact absurd hc hroot) | skip) | (refine X.lenL ?_) | (refine X.lv H ?_) | (refine X.lw H ?_) | (refine X.lp H ?_) | (refine X.stR H ?_; clear H; (try clear w); intro w H) | (refine X.eqL ?_ ?_ <;> intro hc <;> first | (exfalso; first | exact absurd hc (by assumption) | exact absurd (by assumption) hc) | skip) | refine Z H ?_ | (refine Zc ?_ ?_ <;> intro hc <;> first | (exfalso; omega) | skip) | (refine Y ?_; try change C _ _ _ _ _ _) | (refine Zs H ?_; clear H; (try clear w); intro w H) | (refine Zn H ?_; clear H; (try clear w); intro _ w H) | (refine Ze H ?_; clear H; (try clear w); intro gv w H))
          exact ⟨_, resVT (cs := rcells m) H rfl rfl inferInstance hm32, m, 1, hm, rfl, H.tail.tail⟩
        · by_cases hk2 : 2 < k
          · repeat' (first | (refine X.eqL (a := p) (b := [47]) ?_ ?_ <;> intro hc <;> first | (exfalso; exact absurd hc hroot) | skip) | (refine X.lenL ?_) | (refine X.lv H ?_) | (refine X.lw H ?_) | (refine X.lp H ?_) | (refine X.stR H ?_; clear H; (try clear w); intro w H) | (refine X.eqL ?_ ?_ <;> intro hc <;> first | (exfalso; first | exact absurd hc (by assumption) | exact absurd (by assumption) hc) | skip) | refine Z H ?_ | (refine Zc ?_ ?_ <;> intro hc <;> first | (exfalso; omega) | skip) | (refine Y ?_; try change C _ _ _ _ _ _) | (refine Zs H ?_; clear H; (try clear w); intro w H) | (refine Zn H ?_; clear H; (try clear w); intro _ w H) | (refine Ze H ?_; clear H; (try clear w); intro gv w H))
            exact ⟨_, resVT (cs := rcells m) H rfl rfl inferInstance hm32, m, 1, hm, rfl, H.tail.tail⟩
          · repeat' (first | (refine X.eqL (a := p) (b := [47]) ?_ ?_ <;> intro hc <;> first | (exfalso; exact absurd hc hroot) | skip) | (refine X.lenL ?_) | (refine X.lv H ?_) | (refine X.lw H ?_) | (refine X.lp H ?_) | (refine X.stR H ?_; clear H; (try clear w); intro w H) | (refine X.eqL ?_ ?_ <;> intro hc <;> first | (exfalso; first | exact absurd hc (by assumption) | exact absurd (by assumption) hc) | skip) | refine Z H ?_ | (refine Zc ?_ ?_ <;> intro hc <;> first | (exfalso; omega) | skip) | (refine Y ?_; try change C _ _ _ _ _ _) | (refine Zs H ?_; clear H; (try clear w); intro w H) | (refine Zn H ?_; clear H; (try clear w); intro _ w H) | (refine Ze H ?_; clear H; (try clear w); intro gv w H))
            exact ⟨by (repeat (first | exact Agr.refl | exact Agr.hav | refine Agr.upd rfl ?_ | refine Agr.in rfl ?_)), hb rfl, H⟩
  clear H
  rintro vs hv w ⟨hsl, h72⟩ H
  repeat' (first | (refine X.lenL ?_) | (refine X.lv H ?_) | (refine X.lw H ?_) | (refine X.lp H ?_) | (refine X.stR H ?_; clear H; (try clear w); intro w H) | (refine X.eqL ?_ ?_ <;> intro hc <;> first | (exfalso; first | exact absurd hc (by assumption) | exact absurd (by assumption) hc) | skip) | refine Z H ?_ | (refine Zc ?_ ?_ <;> intro hc <;> first | (exfalso; omega) | skip) | (refine Y ?_; try change C _ _ _ _ _ _) | (refine Zs H ?_; clear H; (try clear w); intro w H) | (refine Zn H ?_; clear H; (try clear w); intro _ w H) | (refine Ze H ?_; clear H; (try clear w); intro gv w H))
  (refine X.call (dir_w (p := p) H hm8 hl hsl) ?_; (try clear H); rintro _ w ⟨ab, er, hab, rfl, H⟩; refine ⟨_, rfl, ?_⟩)
  by_cases her : er = 0
  rotate_left
  · repeat' (first | (refine X.lenL ?_) | (refine X.lv H ?_) | (refine X.lw H ?_) | (refine X.lp H ?_) | (refine X.stR H ?_; clear H; (try clear w); intro w H) | (refine X.eqL ?_ ?_ <;> intro hc <;> first | (exfalso; first | exact absurd hc (by assumption) | exact absurd (by assumption) hc) | skip) | refine Z H ?_ | (refine Zc ?_ ?_ <;> intro hc <;> first | (exfalso; omega) | skip) | (refine Y ?_; try change C _ _ _ _ _ _) | (refine Zs H ?_; clear H; (try clear w); intro w H) | (refine Zn H ?_; clear H; (try clear w); intro _ w H) | (refine Ze H ?_; clear H; (try clear w); intro gv w H))
    exact ⟨_, resVT (cs := rcells m) H rfl rfl inferInstance hm32, m, er, hm, rfl, H.tail.tail⟩
  repeat' (first | (refine X.lenL ?_) | (refine X.lv H ?_) | (refine X.lw H ?_) | (refine X.lp H ?_) | (refine X.stR H ?_; clear H; (try clear w); intro w H) | (refine X.eqL ?_ ?_ <;> intro hc <;> first | (exfalso; first | exact absurd hc (by assumption) | exact absurd (by assumption) hc) | skip) | refine Z H ?_ | (refine Zc ?_ ?_ <;> intro hc <;> first | (exfalso; omega) | skip) | (refine Y ?_; try change C _ _ _ _ _ _) | (refine Zs H ?_; clear H; (try clear w); intro w H) | (refine Zn H ?_; clear H; (try clear w); intro _ w H) | (refine Ze H ?_; clear H; (try clear w); intro gv w H))
  (refine X.call (at_w (p := p) H hm8) ?_; (try clear H); rintro _ w ⟨rfl, H⟩; refine ⟨_, rfl, ?_⟩)
  by_cases hat : 0 ≤ atM m p
  · repeat' (first | (refine X.lenL ?_) | (refine X.lv H ?_) | (refine X.lw H ?_) | (refine X.lp H ?_) | (refine X.stR H ?_; clear H; (try clear w); intro w H) | (refine X.eqL ?_ ?_ <;> intro hc <;> first | (exfalso; first | exact absurd hc (by assumption) | exact absurd (by assumption) hc) | skip) | refine Z H ?_ | (refine Zc ?_ ?_ <;> intro hc <;> first | (exfalso; omega) | skip) | (refine Y ?_; try change C _ _ _ _ _ _) | (refine Zs H ?_; clear H; (try clear w); intro w H) | (refine Zn H ?_; clear H; (try clear w); intro _ w H) | (refine Ze H ?_; clear H; (try clear w); intro gv w H))
    exact ⟨_, resVT (cs := rcells m) H rfl rfl inferInstance hm32, m, 171, hm, rfl, H.tail.tail⟩
  repeat' (first | (refine X.lenL ?_) | (refine X.lv H ?_) | (refine X.lw H ?_) | (refine X.lp H ?_) | (refine X.stR H ?_; clear H; (try clear w); intro w H) | (refine X.eqL ?_ ?_ <;> intro hc <;> first | (exfalso; first | exact absurd hc (by assumption) | exact absurd (by assumption) hc) | skip) | refine Z H ?_ | (refine Zc ?_ ?_ <;> intro hc <;> first | (exfalso; omega) | skip) | (refine Y ?_; try change C _ _ _ _ _ _) | (refine Zs H ?_; clear H; (try clear w); intro w H) | (refine Zn H ?_; clear H; (try clear w); intro _ w H) | (refine Ze H ?_; clear H; (try clear w); intro gv w H))
  refine C.loopH H [7, 10, 42, 43, 44, 45, 46, 47, 48, 49, 50, 51, 52, 53, 54, 55, 56] [10] rfl (fun f vs => ∃ i : Nat, f = 8 - i ∧ 1 ≤ i ∧ i ≤ 8 ∧ vs = [.int .i64 (i : Int)]) 7 ⟨1, rfl, by omega, by omega, rfl⟩ ?_
  clear H
  rintro f vs hv2 w ⟨i, rfl, hi1, hi, rfl⟩ H
  by_cases hlt : i < 8
  rotate_left
  · obtain rfl : i = 8 := by omega
    repeat' (first | (refine X.lenL ?_) | (refine X.lv H ?_) | (refine X.lw H ?_) | (refine X.lp H ?_) | (refine X.stR H ?_; clear H; (try clear w); intro w H) | (refine X.eqL ?_ ?_ <;> intro hc <;> first | (exfalso; first | exact absurd hc (by assumption) | exact absurd (by assumption) hc) | skip) | refine Z H ?_ | (refine Zc ?_ ?_ <;> intro hc <;> first | (exfalso; omega) | skip) | (refine Y ?_; try change C _ _ _ _ _ _) | (refine Zs H ?_; clear H; (try clear w); intro w H) | (refine Zn H ?_; clear H; (try clear w); intro _ w H) | (refine Ze H ?_; clear H; (try clear w); intro gv w H))
    exact ⟨_, resVT (cs := rcells m) H rfl rfl inferInstance hm32, m, 5, hm, rfl, H.tail.tail⟩
  have c0 := rcell hm8 hlt 0 _ rfl
  by_cases hk0 : (rn m i).kind = 0
  · have hs2 := hm.set i (RB.nil (k := k) (p := p) (by omega))
    have hm2 := hs2.l8
    repeat' (first | (refine K.iaA (i := i) rfl rfl rfl rfl rfl hlt ?_) | (refine K.build [(0, .int .i64 k), (1, .string ⟨p.toArray⟩)] _ (build_rn2 k p) rfl rfl rfl ?_) | (refine X.stRN (RN.cells ⟨k, p, [], none, 0, 0⟩) i 0 ⟨k, p, [], none, 0, 0⟩ hm8 hlt (Nat.le_refl 4) (by simp [putL, RN.cells]) rfl rfl H ?_; clear H; (try clear w); intro w H) | (refine X.lw H ?_ (hn := rcells_len hm2)) | (refine X.lenL ?_) | (refine X.lv H ?_) | (refine X.lw H ?_) | (refine X.lp H ?_) | (refine X.stR H ?_; clear H; (try clear w); intro w H) | (refine X.eqL ?_ ?_ <;> intro hc <;> first | (exfalso; first | exact absurd hc (by assumption) | exact absurd (by assumption) hc) | skip) | refine Z H ?_ | (refine Zc ?_ ?_ <;> intro hc <;> first | (exfalso; omega) | skip) | (refine Y ?_; try change C _ _ _ _ _ _) | (refine Zs H ?_; clear H; (try clear w); intro w H) | (refine Zn H ?_; clear H; (try clear w); intro _ w H) | (refine Ze H ?_; clear H; (try clear w); intro gv w H))
    exact ⟨_, resVT (cs := rcells (m.set i ⟨k, p, [], none, 0, 0⟩)) H rfl rfl inferInstance (rcells_len hm2), _, 0, hs2, rfl, H.tail.tail⟩
  · repeat' (first | (refine K.iaA (i := i) rfl rfl rfl rfl rfl hlt ?_) | (refine X.lenL ?_) | (refine X.lv H ?_) | (refine X.lw H ?_) | (refine X.lp H ?_) | (refine X.stR H ?_; clear H; (try clear w); intro w H) | (refine X.eqL ?_ ?_ <;> intro hc <;> first | (exfalso; first | exact absurd hc (by assumption) | exact absurd (by assumption) hc) | skip) | refine Z H ?_ | (refine Zc ?_ ?_ <;> intro hc <;> first | (exfalso; omega) | skip) | (refine Y ?_; try change C _ _ _ _ _ _) | (refine Zs H ?_; clear H; (try clear w); intro w H) | (refine Zn H ?_; clear H; (try clear w); intro _ w H) | (refine Ze H ?_; clear H; (try clear w); intro gv w H))
    exact ⟨by (repeat (first | exact Agr.refl | exact Agr.hav | refine Agr.upd rfl ?_ | refine Agr.in rfl ?_)), 8 - (i + 1), by omega, ⟨i + 1, rfl, by omega, by omega, rfl⟩, H⟩
set_option maxRecDepth 100000 in
set_option maxHeartbeats 1000000 in
theorem Remove_w {M : Nat} (H : Holds s w R) (hm : ROk s m M) (hl : p.length ≤ 140737488355328) (hM : M ≤ 1000000) : Calls Try.prog 32 #[.agg (rcells m).toArray, .string ⟨p.toArray⟩] w fun e w' => ∃ (m' : List RN) (er : Int), ROk s m' M ∧ e = .returned (.tuple #[.agg (rcells m').toArray, .int .i64 er]) ∧ Holds s w' R := by
  have hm8 := hm.l8
  have hm32 := rcells_len hm8
  have hz8 : (List.replicate 8 RN.zero).length = 8 := rfl
  refine enter Try.func32 rfl Try.ntmps32 rfl ?_
  repeat' (first | (refine X.lenL ?_) | (refine X.lv H ?_) | (refine X.lw H ?_) | (refine X.lp H ?_) | (refine X.stR H ?_; clear H; (try clear w); intro w H) | (refine X.eqL ?_ ?_ <;> intro hc <;> first | (exfalso; first | exact absurd hc (by assumption) | exact absurd (by assumption) hc) | skip) | refine Z H ?_ | (refine Zc ?_ ?_ <;> intro hc <;> first | (exfalso; omega) | skip) | (refine Y ?_; try change C _ _ _ _ _ _) | (refine Zs H ?_; clear H; (try clear w); intro w H) | (refine Zn H ?_; clear H; (try clear w); intro _ w H) | (refine Ze H ?_; clear H; (try clear w); intro gv w H))
  (refine X.call (IsPath_w (p := p) H hl) ?_; (try clear H); rintro _ w ⟨b, rfl, hb, H⟩; refine ⟨_, rfl, ?_⟩)
  cases b
  · repeat' (first | (refine X.lenL ?_) | (refine X.lv H ?_) | (refine X.lw H ?_) | (refine X.lp H ?_) | (refine X.stR H ?_; clear H; (try clear w); intro w H) | (refine X.eqL ?_ ?_ <;> intro hc <;> first | (exfalso; first | exact absurd hc (by assumption) | exact absurd (by assumption) hc) | skip) | refine Z H ?_ | (refine Zc ?_ ?_ <;> intro hc <;> first | (exfalso; omega) | skip) | (refine Y ?_; try change C _ _ _ _ _ _) | (refine Zs H ?_; clear H; (try clear w); intro w H) | (refine Zn H ?_; clear H; (try clear w); intro _ w H) | (refine Ze H ?_; clear H; (try clear w); intro gv w H))
    exact ⟨_, resVT (cs := rcells m) H rfl rfl inferInstance hm32, m, 1, hm, rfl, H.tail.tail⟩
  by_cases hroot : p = [47]
  · repeat' (first | (refine X.eqL (a := p) (b := [47]) ?_ ?_ <;> intro hc <;> first | (exfalso; exact absurd hroot hc) | skip) | (refine X.lenL ?_) | (refine X.lv H ?_) | (refine X.lw H ?_) | (refine X.lp H ?_) | (refine X.stR H ?_; clear H; (try clear w); intro w H) | (refine X.eqL ?_ ?_ <;> intro hc <;> first | (exfalso; first | exact absurd hc (by assumption) | exact absurd (by assumption) hc) | skip) | refine Z H ?_ | (refine Zc ?_ ?_ <;> intro hc <;> first | (exfalso; omega) | skip) | (refine Y ?_; try change C _ _ _ _ _ _) | (refine Zs H ?_; clear H; (try clear w); intro w H) | (refine Zn H ?_; clear H; (try clear w); intro _ w H) | (refine Ze H ?_; clear H; (try clear w); intro gv w H))
    exact ⟨_, resVT (cs := rcells m) H rfl rfl inferInstance hm32, m, 1, hm, rfl, H.tail.tail⟩
  repeat' (first | (refine X.eqL (a := p) (b := [47]) ?_ ?_ <;> intro hc <;> first | (exfalso; exact absurd hc hroot) | skip) | (refine X.lenL ?_) | (refine X.lv H ?_) | (refine X.lw H ?_) | (refine X.lp H ?_) | (refine X.stR H ?_; clear H; (try clear w); intro w H) | (refine X.eqL ?_ ?_ <;> intro hc <;> first | (exfalso; first | exact absurd hc (by assumption) | exact absurd (by assumption) hc) | skip) | refine Z H ?_ | (refine Zc ?_ ?_ <;> intro hc <;> first | (exfalso; omega) | skip) | (refine Y ?_; try change C _ _ _ _ _ _) | (refine Zs H ?_; clear H; (try clear w); intro w H) | (refine Zn H ?_; clear H; (try clear w); intro _ w H) | (refine Ze H ?_; clear H; (try clear w); intro gv w H))
  (refine X.call (Find_w (p := p) H hm8 hl) ?_; (try clear H); rintro _ w ⟨a, er, ha, rfl, H⟩; refine ⟨_, rfl, ?_⟩)
  by_cases her : er = 0
  rotate_left
  · repeat' (first | (refine X.lenL ?_) | (refine X.lv H ?_) | (refine X.lw H ?_) | (refine X.lp H ?_) | (refine X.stR H ?_; clear H; (try clear w); intro w H) | (refine X.eqL ?_ ?_ <;> intro hc <;> first | (exfalso; first | exact absurd hc (by assumption) | exact absurd (by assumption) hc) | skip) | refine Z H ?_ | (refine Zc ?_ ?_ <;> intro hc <;> first | (exfalso; omega) | skip) | (refine Y ?_; try change C _ _ _ _ _ _) | (refine Zs H ?_; clear H; (try clear w); intro w H) | (refine Zn H ?_; clear H; (try clear w); intro _ w H) | (refine Ze H ?_; clear H; (try clear w); intro gv w H))
    exact ⟨_, resVT (cs := rcells m) H rfl rfl inferInstance hm32, m, er, hm, rfl, H.tail.tail⟩
  repeat' (first | (refine X.lenL ?_) | (refine X.lv H ?_) | (refine X.lw H ?_) | (refine X.lp H ?_) | (refine X.stR H ?_; clear H; (try clear w); intro w H) | (refine X.eqL ?_ ?_ <;> intro hc <;> first | (exfalso; first | exact absurd hc (by assumption) | exact absurd (by assumption) hc) | skip) | refine Z H ?_ | (refine Zc ?_ ?_ <;> intro hc <;> first | (exfalso; omega) | skip) | (refine Y ?_; try change C _ _ _ _ _ _) | (refine Zs H ?_; clear H; (try clear w); intro w H) | (refine Zn H ?_; clear H; (try clear w); intro _ w H) | (refine Ze H ?_; clear H; (try clear w); intro gv w H))
  refine C.loopH H [5, 8, 27, 28, 29, 30, 31, 32, 33, 34, 35, 36, 37, 38, 39, 40, 41, 42, 43, 44] [8] rfl (fun f vs => ∃ i : Nat, f = 8 - i ∧ i ≤ 8 ∧ vs = [.int .i64 (i : Int)]) 8 ⟨0, rfl, by omega, rfl⟩ ?_
  clear H
  rintro f vs hv2 w ⟨i, rfl, hi, rfl⟩ H
  by_cases hlt : i < 8
  rotate_left
  · obtain rfl : i = 8 := by omega
    have hs2 := hm.set a (x := RN.zero) (RB.nil (by simp))
    have hm2 := hs2.l8
    repeat' (first | (refine K.iaA (i := a) rfl rfl rfl rfl rfl ha ?_) | (refine K.build [] _ build_rn0 rfl rfl rfl ?_) | (refine X.stRN (RN.cells RN.zero) a 0 RN.zero hm8 ha (Nat.le_refl 4) (by simp [putL, RN.cells]) rfl rfl H ?_; clear H; (try clear w); intro w H) | (refine X.lw H ?_ (hn := rcells_len hm2)) | (refine X.lenL ?_) | (refine X.lv H ?_) | (refine X.lw H ?_) | (refine X.lp H ?_) | (refine X.stR H ?_; clear H; (try clear w); intro w H) | (refine X.eqL ?_ ?_ <;> intro hc <;> first | (exfalso; first | exact absurd hc (by assumption) | exact absurd (by assumption) hc) | skip) | refine Z H ?_ | (refine Zc ?_ ?_ <;> intro hc <;> first | (exfalso; omega) | skip) | (refine Y ?_; try change C _ _ _ _ _ _) | (refine Zs H ?_; clear H; (try clear w); intro w H) | (refine Zn H ?_; clear H; (try clear w); intro _ w H) | (refine Ze H ?_; clear H; (try clear w); intro gv w H))
    exact ⟨_, resVT (cs := rcells (m.set a RN.zero)) H rfl rfl inferInstance (rcells_len hm2), _, 0, hs2, rfl, H.tail.tail⟩
  have c0 := rcell hm8 hlt 0 _ rfl
  have c1 := rcell hm8 hlt 1 _ rfl
  have hpl := (hm.at hlt).pl
  by_cases hk0 : (rn m i).kind = 0
  · repeat' (first | (refine K.iaA (i := i) rfl rfl rfl rfl rfl hlt ?_) | (refine X.lenL ?_) | (refine X.lv H ?_) | (refine X.lw H ?_) | (refine X.lp H ?_) | (refine X.stR H ?_; clear H; (try clear w); intro w H) | (refine X.eqL ?_ ?_ <;> intro hc <;> first | (exfalso; first | exact absurd hc (by assumption) | exact absurd (by assumption) hc) | skip) | refine Z H ?_ | (refine Zc ?_ ?_ <;> intro hc <;> first | (exfalso; omega) | skip) | (refine Y ?_; try change C _ _ _ _ _ _) | (refine Zs H ?_; clear H; (try clear w); intro w H) | (refine Zn H ?_; clear H; (try clear w); intro _ w H) | (refine Ze H ?_; clear H; (try clear w); intro gv w H))
    exact ⟨by (repeat (first | exact Agr.refl | exact Agr.hav | refine Agr.upd rfl ?_ | refine Agr.in rfl ?_)), 8 - (i + 1), by omega, ⟨i + 1, rfl, by omega, rfl⟩, H⟩
  · repeat' (first | (refine K.iaA (i := i) rfl rfl rfl rfl rfl hlt ?_) | (refine X.lenL ?_) | (refine X.lv H ?_) | (refine X.lw H ?_) | (refine X.lp H ?_) | (refine X.stR H ?_; clear H; (try clear w); intro w H) | (refine X.eqL ?_ ?_ <;> intro hc <;> first | (exfalso; first | exact absurd hc (by assumption) | exact absurd (by assumption) hc) | skip) | refine Z H ?_ | (refine Zc ?_ ?_ <;> intro hc <;> first | (exfalso; omega) | skip) | (refine Y ?_; try change C _ _ _ _ _ _) | (refine Zs H ?_; clear H; (try clear w); intro w H) | (refine Zn H ?_; clear H; (try clear w); intro _ w H) | (refine Ze H ?_; clear H; (try clear w); intro gv w H))
    (refine X.call (Under_w (p := (rn m i).path) (q := p) H (by omega) hl) ?_; (try clear H); rintro _ w ⟨rfl, H⟩; refine ⟨_, rfl, ?_⟩)
    cases decide (underP (rn m i).path p)
    · repeat' (first | (refine X.lenL ?_) | (refine X.lv H ?_) | (refine X.lw H ?_) | (refine X.lp H ?_) | (refine X.stR H ?_; clear H; (try clear w); intro w H) | (refine X.eqL ?_ ?_ <;> intro hc <;> first | (exfalso; first | exact absurd hc (by assumption) | exact absurd (by assumption) hc) | skip) | refine Z H ?_ | (refine Zc ?_ ?_ <;> intro hc <;> first | (exfalso; omega) | skip) | (refine Y ?_; try change C _ _ _ _ _ _) | (refine Zs H ?_; clear H; (try clear w); intro w H) | (refine Zn H ?_; clear H; (try clear w); intro _ w H) | (refine Ze H ?_; clear H; (try clear w); intro gv w H))
      exact ⟨by (repeat (first | exact Agr.refl | exact Agr.hav | refine Agr.upd rfl ?_ | refine Agr.in rfl ?_)), 8 - (i + 1), by omega, ⟨i + 1, rfl, by omega, rfl⟩, H⟩
    · repeat' (first | (refine X.lenL ?_) | (refine X.lv H ?_) | (refine X.lw H ?_) | (refine X.lp H ?_) | (refine X.stR H ?_; clear H; (try clear w); intro w H) | (refine X.eqL ?_ ?_ <;> intro hc <;> first | (exfalso; first | exact absurd hc (by assumption) | exact absurd (by assumption) hc) | skip) | refine Z H ?_ | (refine Zc ?_ ?_ <;> intro hc <;> first | (exfalso; omega) | skip) | (refine Y ?_; try change C _ _ _ _ _ _) | (refine Zs H ?_; clear H; (try clear w); intro w H) | (refine Zn H ?_; clear H; (try clear w); intro _ w H) | (refine Ze H ?_; clear H; (try clear w); intro gv w H))
      exact ⟨_, resVT (cs := rcells m) H rfl rfl inferInstance hm32, m, 172, hm, rfl, H.tail.tail⟩
end
end Go.Proofs.Ytlchnabnhimlcaa
